/-
  Package mean: (*exact).throw.
-/
import Derived.Test.YtmopadnkjlodnaaMog
import Derived.Test.YtmopadnkjlodnaaLegD
import Derived.Test.YtmopadnkjlodnaaMad
namespace Go.Proofs.Ytmopadnkjlodnaa
open Go.RowKit Go.BigFrame
attribute [local go_sem] Oper.semAt_some Later.cell Later.frozen Lat.cell Lat.frozen NoX
/-- A leg that is told dart by dart, in memory. -/
def exC (start gin gout : Int) (beds : List Int) (ba : Option Addr) (bc : Nat) (t : Tot) (left : Int) (inn : Bool) (la : Option Addr) (lc : Nat) (sv : Value) (won : Bool) : Array Value := #[.int .i64 start, .int .i64 gin, .int .i64 gout, .slice ba beds.length bc, .int .i64 t.legs, .int .i64 t.won, .int .i64 t.visits, .int .i64 t.points, .int .i64 t.darts.lo, .int .i64 t.darts.hi, .int .i64 t.tried.lo, .int .i64 t.tried.hi, .int .i64 t.tons, .int .i64 t.highs, .int .i64 t.tops, .int .i64 t.best, .int .i64 left, .bool inn, .int .i64 start, .int .i64 gin, .int .i64 gout, .slice la beds.length lc, sv, .bool won]
section
variable (gin gout : Int) (beds : List Int)
def hitN (s : Sd) (b : Int) : Sd := ⟨(hitS gin gout s.left s.inn b).1, (hitS gin gout s.left s.inn b).2.1⟩
/-- How many darts of a visit were at a finish. -/
def triA : Sd → List Int → Int → Int
  | _, [], n => n
  | s, b :: l, n => triA (hitN gin gout s b) l (n + finI gin gout beds s.left s.inn)
def staA (s : Sd) (l : List Int) : Sd := l.foldl (hitN gin gout) s
end
theorem triA_snoc (gin gout : Int) (beds : List Int) : ∀ (l : List Int) (s : Sd) (b n : Int), triA gin gout beds s (l ++ [b]) n = triA gin gout beds s l n + finI gin gout beds (staA gin gout s l).left (staA gin gout s l).inn
  | [], _, _, _ => rfl
  | x :: l, s, b, n => triA_snoc gin gout beds l (hitN gin gout s x) b (n + finI gin gout beds s.left s.inn)
theorem staA_snoc (gin gout : Int) (l : List Int) (s : Sd) (b : Int) : staA gin gout s (l ++ [b]) = hitN gin gout (staA gin gout s l) b := by unfold staA; rw [List.foldl_append]; rfl
theorem triA_bounds (gin gout : Int) (beds : List Int) : ∀ (l : List Int) (s : Sd) (n : Int), n ≤ triA gin gout beds s l n ∧ triA gin gout beds s l n ≤ n + l.length
  | [], _, n => ⟨Int.le_refl _, by simp [triA]⟩
  | x :: l, s, n => by
    have h := triA_bounds gin gout beds l (hitN gin gout s x) (n + finI gin gout beds s.left s.inn)
    have hf : 0 ≤ finI gin gout beds s.left s.inn ∧ finI gin gout beds s.left s.inn ≤ 1 := by unfold finI; split <;> decide
    unfold triA
    simp only [List.length_cons]
    omega
theorem staA_bounds {gin gout : Int} {beds : List Int} (hB : bedsB beds = true) : ∀ (l : List Int) (s : Sd), (∀ b ∈ l, b = 0 ∨ b ∈ beds) → 0 ≤ s.left → 0 ≤ (staA gin gout s l).left ∧ (staA gin gout s l).left ≤ s.left
  | [], s, _, h => ⟨h, Int.le_refl _⟩
  | x :: l, s, hm, h => by
    have h1 := hit_bounds (gin := gin) (gout := gout) (inn := s.inn) (beds_bounds hB (hm x (by simp))).2.1 h
    have h2 := staA_bounds (gin := gin) (gout := gout) hB l (hitN gin gout s x) (fun b hb => hm b (by simp [hb])) h1.1
    exact ⟨h2.1, Int.le_trans h2.2 h1.2⟩
set_option maxRecDepth 100000 in
set_option maxHeartbeats 8000000 in
theorem mean_tries (start gin gout : Int) (beds : List Int) (ba : Option Addr) (bc : Nat) (t : Tot) (left : Int) (inn : Bool) (la : Option Addr) (lc : Nat) (sv : Value) (won : Bool) (kx : Nat) (vb : List Int) (va : Option Addr) (vc : Nat) (w : World)
    (hx : Blk w kx (exC start gin gout beds ba bc t left inn la lc sv won)) (hR : CellsAt w .i64 ba beds) (hV : CellsAt w .i64 va vb) (hB : bedsB beds = true) (hl : beds.length ≤ 100) (hn : vb.length ≤ 1000) (hm : ∀ b ∈ vb, b = 0 ∨ b ∈ beds) (hleft : 0 ≤ left ∧ left ≤ 2000) :
    Calls Try.prog 87 #[.pointer (some ⟨kx, 0, none⟩), .slice va vb.length vc] w fun e w' => e = .returned (.int .i64 (triA gin gout beds ⟨left, inn⟩ vb 0)) ∧ Ext w w' := by
  have HX := Lib.hid hx
  unfold exC at HX
  have HR := Lib.hid hR
  have HV := Lib.hid hV
  have HB := Lib.hid hB
  have HLB := Lib.hid hl
  have HM := Lib.hid hm
  have HL := Lib.hid hleft
  clear hx hR hV hB hl hm hleft
  have q0 := HX.out.cell 16 (v := .int .i64 left) rfl
  have q1 := HX.out.cell 17 (v := .bool inn) rfl
  have ql := HX.out.lt
  go_enter Try.func87, Try.ntmps87
  go_upto_region 2 with fail
  obtain ⟨w1, hw1⟩ : ∃ y, y = w.alloc (.cells #[.int .i64 left, .bool inn] 119) := ⟨_, rfl⟩
  obtain ⟨k5, hk5⟩ : ∃ y, y = w.heap.size := ⟨_, rfl⟩
  rw [← hw1, ← hk5]
  have HX1 : Hid (Ext w w1) := Lib.hid (by rw [hw1]; exact (Ext.refl w).alloc _)
  have K5 : Hid (Blk w1 k5 #[.int .i64 left, .bool inn]) := Lib.hid (by rw [hw1, hk5]; exact Blk.new _ _ _)
  have HNE : Hid (¬ kx = k5) := Lib.hid (by omega)
  have HK5 := Lib.hid hk5
  clear hw1 hk5 q0 q1 ql
  go_wp2
  go_loopw [4, 14] (fun n i wr => ∃ (k : Nat) (N : Int), k ≤ vb.length ∧ i = .int .i64 k ∧ n = .int .i64 N ∧ N = triA gin gout beds ⟨left, inn⟩ (vb.take k) 0 ∧ Blk wr k5 #[.int .i64 (staA gin gout ⟨left, inn⟩ (vb.take k)).left, .bool (staA gin gout ⟨left, inn⟩ (vb.take k)).inn] ∧ Chg (· = k5) w1 wr) (fun _ i _ => vb.length - (intOf i).toNat)
  case atStart => exact ⟨0, 0, Nat.zero_le _, rfl, rfl, rfl, K5.out, Chg.refl _ _⟩
  case round =>
    obtain ⟨k, nn, hk, rfl, rfl, hnn, hb5, hck⟩ := hrel
    have HNN := Lib.hid hnn
    have HB5 := Lib.hid hb5
    have HCK := Lib.hid hck
    have HKR := Lib.hid ((HX.out.ext HX1.out).chg hck HNE.out)
    clear hnn hb5 hck
    by_cases hlt : k < vb.length
    · obtain ⟨bb, bo, rfl, c0⟩ := HV.out k hlt
      have c1 := lt_of_cell c0
      simp only at c1
      have hne5 : ¬ bb = k5 := by have := HK5.out; omega
      have c2 : wr.cell? ⟨bb, bo + k, none⟩ = some (.int .i64 vb[k]) := HCK.out.cell (HX1.out.cell c0) hne5
      have c3 := lt_of_cell c2
      simp only at c3
      have hmem := HM.out vb[k] (List.getElem_mem hlt)
      have HTK := Lib.hid (List.take_succ_eq_append_getElem hlt)
      generalize vb[k] = b at *
      have hsb := staA_bounds (gin := gin) (gout := gout) HB.out (vb.take k) ⟨left, inn⟩ (fun x hx => HM.out x (List.mem_of_mem_take hx)) HL.out.1
      have htb := triA_bounds gin gout beds (vb.take k) ⟨left, inn⟩ 0
      rw [← HNN.out] at htb
      have htl : (vb.take k).length ≤ 1000 := by rw [List.length_take]; omega
      obtain ⟨⟨sl, si⟩, hs⟩ : ∃ y, staA gin gout ⟨left, inn⟩ (vb.take k) = y := ⟨_, rfl⟩
      have HS := Lib.hid hs
      rw [hs] at HB5 hsb
      simp only at HB5 hsb
      have HSB := Lib.hid hsb
      have hSL : 0 ≤ sl ∧ sl ≤ 2000 := by have := HL.out; omega
      have hxb := beds_bounds HB.out hmem
      have hsane : Sane sl beds := fun x hx => by
        have h1 := beds_bounds HB.out (.inr hx)
        exact ⟨h1.1, by unfold I64; omega⟩
      obtain ⟨fi, hfi⟩ : ∃ y, finI gin gout beds sl si = y := ⟨_, rfl⟩
      have hfb : 0 ≤ fi ∧ fi ≤ 1 := by rw [← hfi]; unfold finI; split <;> decide
      have HFI := Lib.hid hfi
      have HISF : Hid (∀ W, Chg (· = k5) w1 W → Calls Try.prog 80 #[.agg #[.int .i64 start, .int .i64 gin, .int .i64 gout, .slice ba beds.length bc], .agg #[.int .i64 sl, .bool si]] W fun e w' => e = .returned (.int .i64 fi) ∧ Ext W w') := Lib.hid (fun W hc => by
        rw [← HFI.out]
        exact mean_isFinish start gin gout sl si beds ba bc W (fun i hi => let ⟨b, o, e, h⟩ := HR.out i hi; ⟨b, o, e, hc.cell (HX1.out.cell h) (by have h1 := lt_of_cell h; have h2 := HK5.out; simp only at h1; show ¬ b = k5; omega)⟩) (by have := HLB.out; omega) hsane)
      have hwr : wrap64 (nn + fi) = nn + fi := wrap64_in' ⟨by omega, by omega⟩
      have HWR := Lib.hid hwr
      have HHIT := Lib.hid (fun W' => mean_hit start gin gout sl si (.slice ba beds.length bc) b W' hxb.1 (by unfold I64; omega) ⟨_, _, _, rfl⟩)
      unfold hitV at HHIT
      obtain ⟨⟨hL, hI, E⟩, hH⟩ : ∃ y, hitS gin gout sl si b = y := ⟨_, rfl⟩
      rw [hH] at HHIT
      simp only at HHIT
      have HH := Lib.hid hH
      clear hs hsb hSL hxb hsane hfi hfb hwr hH hmem htb htl c0 c1 hne5
      have hw' := HWR.out
      have z0 : ∀ y : Later wr, y.world.cell? ⟨kx, 0, none⟩ = some (.int .i64 start) := fun y => (HKR.out.ext y.ext).cell 0 rfl
      have z1 : ∀ y : Later wr, y.world.cell? ⟨kx, 1, none⟩ = some (.int .i64 gin) := fun y => (HKR.out.ext y.ext).cell 1 rfl
      have z2 : ∀ y : Later wr, y.world.cell? ⟨kx, 2, none⟩ = some (.int .i64 gout) := fun y => (HKR.out.ext y.ext).cell 2 rfl
      have z3 : ∀ y : Later wr, y.world.cell? ⟨kx, 3, none⟩ = some (.slice ba beds.length bc) := fun y => (HKR.out.ext y.ext).cell 3 rfl
      have z4 : ∀ y : Later wr, y.world.cell? ⟨k5, 0, none⟩ = some (.int .i64 sl) := fun y => (HB5.out.ext y.ext).cell 0 rfl
      have z5 : ∀ y : Later wr, y.world.cell? ⟨k5, 1, none⟩ = some (.bool si) := fun y => (HB5.out.ext y.ext).cell 1 rfl
      have zl := HKR.out.lt
      have zl5 := HB5.out.lt
      go_upto_region 5 with fail
      refine wp_region_later (by kernel_rfl) (by kernel_rfl) ?_
      repeat (go_big_quiet_step (with_reducible refine Calls.later (HISF.out _ (HCK.out.ext' (Later.ext _)))))
      refine wpQuiet_nil ?_
      intro w5 hw5
      obtain ⟨⟨w5, hx5⟩, rfl⟩ := hw5
      have HX5 := Lib.hid hx5
      have HB55 := Lib.hid (HB5.out.ext hx5)
      have HKR5 := Lib.hid (HKR.out.ext hx5)
      have nX : ∀ y : Lat (fun b _ => b = k5) w5, Blk y.world kx #[.int .i64 start, .int .i64 gin, .int .i64 gout, .slice ba beds.length bc, .int .i64 t.legs, .int .i64 t.won, .int .i64 t.visits, .int .i64 t.points, .int .i64 t.darts.lo, .int .i64 t.darts.hi, .int .i64 t.tried.lo, .int .i64 t.tried.hi, .int .i64 t.tons, .int .i64 t.highs, .int .i64 t.tops, .int .i64 t.best, .int .i64 left, .bool inn, .int .i64 start, .int .i64 gin, .int .i64 gout, .slice la beds.length lc, sv, .bool won] := fun y => HKR5.out.chg y.chg (by rintro ⟨_, e⟩; exact HNE.out e)
      have y0 : ∀ y : Lat (fun b _ => b = k5) w5, y.world.cell? ⟨kx, 0, none⟩ = some (.int .i64 start) := fun y => (nX y).cell 0 rfl
      have y1 : ∀ y : Lat (fun b _ => b = k5) w5, y.world.cell? ⟨kx, 1, none⟩ = some (.int .i64 gin) := fun y => (nX y).cell 1 rfl
      have y2 : ∀ y : Lat (fun b _ => b = k5) w5, y.world.cell? ⟨kx, 2, none⟩ = some (.int .i64 gout) := fun y => (nX y).cell 2 rfl
      have y3 : ∀ y : Lat (fun b _ => b = k5) w5, y.world.cell? ⟨kx, 3, none⟩ = some (.slice ba beds.length bc) := fun y => (nX y).cell 3 rfl
      have yl := HKR5.out.lt
      clear hx5 z0 z1 z2 z3 z4 z5 zl zl5 nX hw' c2 c3
      go_upto_region 6 with fail
      refine wp_region_lat (by kernel_rfl) (fun b _ => b = k5) (fun k => (k == 4) || ((k == 10))) (RsIs [(4, .agg #[.int .i64 sl, .bool si])]) (fun L _ W => Blk W k5 (bif L 10 then #[.int .i64 hL, .bool hI] else #[.int .i64 sl, .bool si])) (by kernel_rfl)
        (fun k hk => by
          simp only [Bool.or_eq_true, beq_iff_eq] at hk
          rcases hk with rfl | rfl <;> decide)
        (fun L L' u w' h hg => by first | (rw [h 10 (by rfl)]; exact hg) | exact hg) (fun L u a b h hx => h.ext hx) (rsW [(4, .agg #[.int .i64 sl, .bool si])]) (fun k _ => rsW_ok _ k) (HB55.out.ext (Ext.refl w5).drew) ?_
      intro T hT hne2 u hu
      have e_4 : u 4 = .agg #[.int .i64 sl, .bool si] := hu 4 rfl
      refine lx_next 4 (by rfl) (by decide) ?_
      dsimp only [List.take, List.drop]
      repeat (go_big_quiet_step (with_reducible refine Calls.lat hT (HHIT.out _)))
      refine wpQuiet_nil ?_
      refine lx_loud (by rfl) (by kernel_rfl) ?_ (fun K hK => ?_)
      · intro L w4 hL hd hcl hC hs
        obtain ⟨y, rfl⟩ := hC
        have d10 := hcl.off hL 40 10 (by kernel_rfl)
        rw [d10] at hs
        have hs : Blk y.world k5 #[.int .i64 sl, .bool si] := hs
        have r0 := hs.cell 0 (v := .int .i64 sl) rfl
        have r1 := hs.cell 1 (v := .bool si) rfl
        have rl := hs.lt
        have HS := Lib.hid hs
        have D10 := Lib.hid d10
        have HLL := Lib.hid hL
        clear hs hd hcl hL d10
        go_wp2
        exact ⟨rfl, ⟨y, rfl⟩, by first | (rw [show upd L 4 10 = L 10 from rfl, D10.out]; exact HS.out) | exact HS.out⟩
      rw [e_4]
      go_simp
      with_reducible refine hK _ ?_
      clear hK K
      refine lx_next 5 (by rfl) (by decide) ?_
      dsimp only [List.take, List.drop]
      repeat (go_big_quiet_step (with_reducible refine Calls.lat hT (HHIT.out _)))
      refine wpQuiet_nil ?_
      refine lx_loud (by rfl) (by kernel_rfl) ?_ (fun K hK => ?_)
      · intro L w4 hL hd hcl hC hs
        obtain ⟨y, rfl⟩ := hC
        rw [hL] at hs
        have hs : Blk y.world k5 #[.int .i64 sl, .bool si] := hs
        have r0 := hs.cell 0 (v := .int .i64 sl) rfl
        have r1 := hs.cell 1 (v := .bool si) rfl
        have rf0 := hs.frozen 0
        have rf1 := hs.frozen 1
        have rl := hs.lt
        have HS := Lib.hid hs
        have HLL := Lib.hid hL
        clear hs hd hcl hL
        go_wp2
        have hb0 : Blk _ k5 #[.int .i64 hL, .bool si] := HS.out.set 0 (.int .i64 hL)
        have hb1 : Blk _ k5 #[.int .i64 hL, .bool hI] := hb0.set 1 (.bool hI)
        exact ⟨trivial, ⟨y.chgd (((Chg.refl (· = k5) y.world).setCell (.inr rfl) (.int .i64 hL)).setCell (.inr rfl) (.bool hI)) (fun b hb => .inr fun _ => hb), rfl⟩, by first | (rw [show upd L 10 10 = true from rfl]; exact hb1) | exact hb0⟩
      go_simp
      with_reducible refine hK _ ?_
      clear hK K
      refine lx_nil ?_
      intro y hs
      have HB6 : Hid (Blk y.world k5 #[.int .i64 hL, .bool hI]) := Lib.hid hs
      have HCw6 : Hid (Chg (· = k5) w5 y.world) := Lib.hid (y.chg.mono (by rintro q - ⟨_, e⟩; exact e))
      clear hs hu hT hne2 e_4 y0 y1 y2 y3 yl
      generalize y.world = w6 at *
      clear y
      go_wp2
      go_roundw
      case rel =>
        refine ⟨k + 1, nn + fi, by omega, by go_num, by rw [HWR.out], ?_, ?_, ?_⟩
        · rw [HTK.out, triA_snoc, ← HNN.out, HS.out, HFI.out]
        · rw [HTK.out, staA_snoc, HS.out]
          have e : hitN gin gout ⟨sl, si⟩ b = ⟨hL, hI⟩ := by unfold hitN; simp only; rw [HH.out]
          rw [e]
          exact HB6.out
        · exact (HCK.out.ext' HX5.out).trans HCw6.out
      case measure => simp [intOf]; omega
    · obtain rfl : vb.length = k := by omega
      have HNF : Hid (nn = triA gin gout beds ⟨left, inn⟩ vb 0) := Lib.hid (by rw [HNN.out, List.take_length])
      go_wp2
      refine bodyPost_ret (v := .int .i64 nn) (by simp [results, Try.results87, go_sem]) rfl ⟨by rw [HNF.out], Chg.to_ext HX1.out HCK.out (by rintro i rfl; rw [HK5.out]; exact Nat.le_refl _)⟩
end Go.Proofs.Ytmopadnkjlodnaa
namespace Go.Proofs.Ytmopadnkjlodnaa
open Go.RowKit Go.BigFrame
attribute [local go_sem] Oper.semAt_some Later.cell Later.frozen Lat.cell Lat.frozen NoX
theorem six_chg (S : Nat → Prop) (w : World) {b : Nat} (hb : S b) (x0 x1 x2 x3 x4 x5 : Value) : Chg S w ((((((w.setCell ⟨b, 0, none⟩ x0).setCell ⟨b, 1, none⟩ x1).setCell ⟨b, 2, none⟩ x2).setCell ⟨b, 3, none⟩ x3).setCell ⟨b, 4, none⟩ x4).setCell ⟨b, 5, none⟩ x5) :=
  ((((((Chg.refl S w).setCell (.inr hb) x0).setCell (.inr hb) x1).setCell (.inr hb) x2).setCell (.inr hb) x3).setCell (.inr hb) x4).setCell (.inr hb) x5
section
variable (start gin gout : Int) (beds : List Int) (inn : Bool) (left : Int) (vb : List Int)
def chkE (i : Nat) : Option Int :=
  if (visS start gin gout inn left (vb.take i)).2 = 0 ∨ (visS start gin gout inn left (vb.take i)).2 = 32 then some 32
  else if (vb.getD i 0 != 0 && !beds.any (vb.getD i 0 == ·)) = true then some 7 else none
/-- The error of the beds of a visit. -/
def chkS : Int := match (List.range vb.length).findSome? (chkE start gin gout beds inn left vb) with
  | some e => e
  | none => (visS start gin gout inn left vb).2
end
theorem find_range {f : Nat → Option Int} {n k : Nat} {e : Int} (hk : k < n) (h0 : (List.range k).findSome? f = none) (h1 : f k = some e) : (List.range n).findSome? f = some e := by
  have h2 : k < (List.range n).length := by simpa using hk
  rw [← List.take_append_drop k (List.range n), List.drop_eq_getElem_cons h2, List.findSome?_append, List.take_range, Nat.min_eq_left (by omega), h0]
  simp [h1]
set_option maxRecDepth 100000 in
set_option maxHeartbeats 8000000 in
theorem mean_check (start gin gout : Int) (beds : List Int) (ba : Option Addr) (bc : Nat) (t : Tot) (left : Int) (inn : Bool) (la : Option Addr) (lc : Nat) (sv : Value) (won : Bool) (kx : Nat) (vb : List Int) (va : Option Addr) (vc : Nat) (w : World)
    (hx : Blk w kx (exC start gin gout beds ba bc t left inn la lc sv won)) (hR : CellsAt w .i64 ba beds) (hV : CellsAt w .i64 va vb) (hl : beds.length ≤ 100) (hn : vb.length ≤ 1000) (hvc : vb.length ≤ vc ∧ vc ≤ maxLen) (hvi : ∀ b ∈ vb, I64 b) :
    Calls Try.prog 85 #[.pointer (some ⟨kx, 0, none⟩), .slice va vb.length vc] w fun e w' => e = .returned (.int .i64 (chkS start gin gout beds inn left vb)) ∧ Ext w w' := by
  obtain ⟨R, hRR⟩ : ∃ y, chkS start gin gout beds inn left vb = y := ⟨_, rfl⟩
  rw [hRR]
  have HRR := Lib.hid hRR
  have HX := Lib.hid hx
  unfold exC at HX
  have HR := Lib.hid hR
  have HV := Lib.hid hV
  have HLB := Lib.hid hl
  have HVC := Lib.hid hvc
  have HVI := Lib.hid hvi
  obtain ⟨ck, hck⟩ : ∃ f, chkE start gin gout beds inn left vb = f := ⟨_, rfl⟩
  have HCK := Lib.hid hck
  have HRS : Hid (R = match (List.range vb.length).findSome? ck with | some e => e | none => (visS start gin gout inn left vb).2) := Lib.hid (by rw [← hRR, ← hck]; rfl)
  clear hRR hx hR hV hl hvi hck hvc
  go_enter Try.func85, Try.ntmps85
  go_wp2
  go_loopw [13] (fun i wr => ∃ k : Nat, k ≤ vb.length ∧ i = .int .i64 k ∧ (List.range k).findSome? ck = none ∧ Ext w wr) (fun i _ => vb.length - (intOf i).toNat)
  case atStart => exact ⟨0, Nat.zero_le _, rfl, rfl, Ext.refl _⟩
  case round =>
    obtain ⟨k, hk, rfl, hno, hxr⟩ := hrel
    have HNO := Lib.hid hno
    have HXR := Lib.hid hxr
    have HKR := Lib.hid (HX.out.ext hxr)
    clear hno hxr
    by_cases hlt : k < vb.length
    · obtain ⟨bb, bo, rfl, c0⟩ := HV.out k hlt
      have c2 := HXR.out.cell c0
      have c3 := lt_of_cell c2
      simp only at c3
      have hgd : vb.getD k 0 = vb[k] := by simp [hlt]
      obtain ⟨⟨TH, er⟩, hT⟩ : ∃ y, visS start gin gout inn left (vb.take k) = y := ⟨_, rfl⟩
      have hvis := fun W (hxw : Ext w W) => leg_Visit start gin gout inn left (vb.take k) (some ⟨bb, bo, none⟩) vc W (fun i hi => by
        have hi' : i < vb.length := by rw [List.length_take] at hi; omega
        obtain ⟨b, o, e, h⟩ := HV.out i hi'
        rw [List.getElem_take]
        exact ⟨b, o, e, hxw.cell h⟩) (fun x hx => HVI.out x (List.mem_of_mem_take hx)) (by rw [List.length_take]; omega) _ hT
      rw [show (vb.take k).length = k by rw [List.length_take]; omega] at hvis
      unfold Thr.agg at hvis
      simp only at hvis
      have HVIS := Lib.hid hvis
      have HCE : Hid (ck k = if er = 0 ∨ er = 32 then some 32 else if (vb[k] != 0 && !beds.any (vb[k] == ·)) = true then some 7 else none) := Lib.hid (by rw [← HCK.out]; unfold chkE; rw [hT, hgd])
      generalize vb[k] = b at *
      have hvc1 : (vb.length : Int) ≤ (vc : Int) := by have := HVC.out; omega
      clear hvis hT hgd c0
      go_upto_region 4 with fail
      have hkv : (k : Int) ≤ (vc : Int) := by omega
      have y0 : ∀ y : Lat NoX wr, y.world.cell? ⟨kx, 0, none⟩ = some (.int .i64 start) := fun y => (HKR.out.ext (Lat.ext0 y)).cell 0 rfl
      have y1 : ∀ y : Lat NoX wr, y.world.cell? ⟨kx, 1, none⟩ = some (.int .i64 gin) := fun y => (HKR.out.ext (Lat.ext0 y)).cell 1 rfl
      have y2 : ∀ y : Lat NoX wr, y.world.cell? ⟨kx, 2, none⟩ = some (.int .i64 gout) := fun y => (HKR.out.ext (Lat.ext0 y)).cell 2 rfl
      have y16 : ∀ y : Lat NoX wr, y.world.cell? ⟨kx, 16, none⟩ = some (.int .i64 left) := fun y => (HKR.out.ext (Lat.ext0 y)).cell 16 rfl
      have y17 : ∀ y : Lat NoX wr, y.world.cell? ⟨kx, 17, none⟩ = some (.bool inn) := fun y => (HKR.out.ext (Lat.ext0 y)).cell 17 rfl
      have yl := HKR.out.lt
      refine wp_region_lat (by kernel_rfl) NoX (boxN 22 23) (BoxR 22) (BoxG 22 23 #[.int .i64 0, .int .i64 0, .int .i64 0, .bool false, .bool false, .bool false] #[.int .i64 TH.left, .int .i64 TH.score, .int .i64 TH.darts, .bool TH.inn, .bool TH.bust, .bool TH.won] wr.heap.size) (by kernel_rfl)
        (fun k hk => by
          simp only [boxN, Bool.or_eq_true, beq_iff_eq] at hk
          rcases hk with rfl | rfl <;> decide)
        (fun L L' u w' h hg => hg.congr (h 22 rfl) (h 23 rfl)) (fun L u a b h hx => h.ext hx) (fun _ => .pointer (some ⟨0, 0, none⟩)) (fun k _ => ⟨0, fun _ => rfl⟩) ⟨fun h => (by cases h)⟩ ?_
      intro T hT hne2 u hu
      obtain ⟨k7, e_box⟩ := hu 22 rfl
      replace e_box := e_box rfl
      refine lx_next 22 (by rfl) (by decide) ?_
      dsimp only [List.take, List.drop]
      repeat (go_big_quiet_step (with_reducible refine Calls.lat hT (HVIS.out _ (HXR.out.trans (Lat.ext0 _)))))
      refine wpQuiet_nil ?_
      refine lx_loud (by rfl) (by kernel_rfl) ?_ (fun K hK => ?_)
      · intro L w4 hL hd hcl hC hs
        obtain ⟨y, rfl⟩ := hC
        have h6 := hcl.off hL 40 23 (by kernel_rfl)
        have hy := y.size
        clear hs hd hcl
        go_wp2
        exact ⟨⟨_, fun _ => rfl⟩, ⟨y.ext ((Ext.refl _).alloc _), rfl⟩, ⟨fun _ => ⟨_, rfl, hy, by rw [show upd L 22 23 = L 23 from rfl, h6]; exact Blk.new _ _ _⟩⟩⟩
      rw [e_box]
      go_simp
      with_reducible refine hK _ ?_
      clear hK K
      refine lx_loud (by rfl) (by kernel_rfl) ?_ (fun K hK => ?_)
      · intro L w4 hL hd hcl hC hs
        obtain ⟨y, rfl⟩ := hC
        obtain ⟨k, ek, hk, hbk⟩ := hs.at_ (hd 22 (by kernel_rfl))
        obtain rfl : k7 = k := by have h := e_box.symm.trans ek; cases h; rfl
        rw [hL] at hbk
        have hbk : Blk y.world k7 #[.int .i64 0, .int .i64 0, .int .i64 0, .bool false, .bool false, .bool false] := hbk
        have r0 := hbk.cell 0 (v := .int .i64 0) rfl
        have rf0 := hbk.frozen 0
        have r1 := hbk.cell 1 (v := .int .i64 0) rfl
        have rf1 := hbk.frozen 1
        have r2 := hbk.cell 2 (v := .int .i64 0) rfl
        have rf2 := hbk.frozen 2
        have r3 := hbk.cell 3 (v := .bool false) rfl
        have rf3 := hbk.frozen 3
        have r4 := hbk.cell 4 (v := .bool false) rfl
        have rf4 := hbk.frozen 4
        have r5 := hbk.cell 5 (v := .bool false) rfl
        have rf5 := hbk.frozen 5
        have rl := hbk.lt
        have HBK := Lib.hid hbk
        have HEK := Lib.hid ek
        have HHK := Lib.hid hk
        clear hs hd hcl hbk ek hk
        go_wp2
        refine ⟨⟨0, fun h => absurd h (by decide)⟩, ⟨y.chgd (six_chg (· = k7) y.world (b := k7) rfl _ _ _ _ _ _) (fun b hb => .inl (by rw [show b = k7 from hb]; exact HHK.out)), rfl⟩, ⟨fun _ => ⟨k7, HEK.out, HHK.out, six_set HBK.out _ _ _ _ _ _⟩⟩⟩
      go_simp
      with_reducible refine hK _ ?_
      clear hK K
      refine lx_next 1 (by rfl) (by decide) ?_
      dsimp only [List.take, List.drop]
      repeat (go_big_quiet_step (with_reducible refine Calls.lat hT (HVIS.out _ (HXR.out.trans (Lat.ext0 _)))))
      refine wpQuiet_nil ?_
      refine lx_nil ?_
      intro y hs
      obtain ⟨kk, ek, hk, hbk⟩ := hs.at_ rfl
      obtain rfl : k7 = kk := by have h := e_box.symm.trans ek; cases h; rfl
      have HB7 : Hid (Blk y.world k7 #[.int .i64 TH.left, .int .i64 TH.score, .int .i64 TH.darts, .bool TH.inn, .bool TH.bust, .bool TH.won]) := Lib.hid hbk
      have Hk7 : Hid (wr.heap.size ≤ k7) := Lib.hid hk
      have HXw5 := Lib.hid (Lat.ext0 y)
      clear hs hbk hk ek e_box hu hT hne2 y0 y1 y2 y16 y17 yl hkv
      generalize y.world = w5 at *
      clear y
      have HXR5 := Lib.hid (HXR.out.trans HXw5.out)
      have HKR5 := Lib.hid (HKR.out.ext HXw5.out)
      by_cases h0 : er = 0
      · subst h0
        have HRE : Hid (R = 32) := Lib.hid (by
          have h : ck k = some 32 := by rw [HCE.out, if_pos (.inl rfl)]
          rw [HRS.out, find_range hlt HNO.out h])
        go_wp2
        refine bodyPost_ret (v := .int .i64 32) (by simp [results, Try.results85, go_sem]) rfl ⟨by rw [HRE.out], HXR5.out⟩
      by_cases h32 : er = 32
      · subst h32
        have HRE : Hid (R = 32) := Lib.hid (by
          have h : ck k = some 32 := by rw [HCE.out, if_pos (.inr rfl)]
          rw [HRS.out, find_range hlt HNO.out h])
        go_wp2
        refine bodyPost_ret (v := .int .i64 32) (by simp [results, Try.results85, go_sem]) rfl ⟨by rw [HRE.out], HXR5.out⟩
      have HCE2 : Hid (ck k = if (b != 0 && !beds.any (b == ·)) = true then some 7 else none) := Lib.hid (by rw [HCE.out, if_neg (by omega)])
      by_cases hb0 : b = 0
      · subst hb0
        have HN1 : Hid ((List.range (k + 1)).findSome? ck = none) := Lib.hid (by rw [List.range_succ, List.findSome?_append, HNO.out]; simp [HCE2.out])
        go_wp2
        go_roundw
        case rel => exact ⟨k + 1, by omega, by go_num, HN1.out, HXR5.out⟩
        case measure => simp [intOf]; omega
      · have hcb := contains_b b beds ba bc w5 (HR.out.ext HXR5.out) (by have := HLB.out; omega)
        obtain ⟨cb, hcbe⟩ : ∃ y, beds.any (b == ·) = y := ⟨_, rfl⟩
        rw [hcbe] at hcb HCE2
        have HCB := Lib.hid hcb
        have hbne : (b != 0) = true := by simpa using hb0
        have HBNE := Lib.hid hbne
        have q3 := HKR5.out.cell 3 (v := .slice ba beds.length bc) rfl
        have ql := HKR5.out.lt
        clear hcb hcbe
        go_wp2_with fail
        refine HCB.out.mono ?_
        rintro e w6 ⟨rfl, hx6⟩
        have HX6 := Lib.hid (HXR5.out.trans hx6)
        clear hx6 q3 ql
        cases cb
        · have HRE : Hid (R = 7) := Lib.hid (by
            have h : ck k = some 7 := by rw [HCE2.out, if_pos (by rw [HBNE.out]; rfl)]
            rw [HRS.out, find_range hlt HNO.out h])
          go_wp2
          refine bodyPost_ret (v := .int .i64 7) (by simp [results, Try.results85, go_sem]) rfl ⟨by rw [HRE.out], HX6.out⟩
        · have HN1 : Hid ((List.range (k + 1)).findSome? ck = none) := Lib.hid (by rw [List.range_succ, List.findSome?_append, HNO.out]; simp [HCE2.out])
          go_wp2
          go_roundw
          case rel => exact ⟨k + 1, by omega, by go_num, HN1.out, HX6.out⟩
          case measure => simp [intOf]; omega
    · obtain rfl : vb.length = k := by omega
      obtain ⟨⟨TH, er⟩, hT⟩ : ∃ y, visS start gin gout inn left vb = y := ⟨_, rfl⟩
      have hvis := fun W (hxw : Ext w W) => leg_Visit start gin gout inn left vb va vc W (HV.out.ext hxw) HVI.out (by omega) _ hT
      unfold Thr.agg at hvis
      simp only at hvis
      have HVIS := Lib.hid hvis
      have HRE : Hid (R = er) := Lib.hid (by rw [HRS.out, HNO.out, hT])
      clear hvis hT
      go_upto_region 11 with fail
      have y0 : ∀ y : Lat NoX wr, y.world.cell? ⟨kx, 0, none⟩ = some (.int .i64 start) := fun y => (HKR.out.ext (Lat.ext0 y)).cell 0 rfl
      have y1 : ∀ y : Lat NoX wr, y.world.cell? ⟨kx, 1, none⟩ = some (.int .i64 gin) := fun y => (HKR.out.ext (Lat.ext0 y)).cell 1 rfl
      have y2 : ∀ y : Lat NoX wr, y.world.cell? ⟨kx, 2, none⟩ = some (.int .i64 gout) := fun y => (HKR.out.ext (Lat.ext0 y)).cell 2 rfl
      have y16 : ∀ y : Lat NoX wr, y.world.cell? ⟨kx, 16, none⟩ = some (.int .i64 left) := fun y => (HKR.out.ext (Lat.ext0 y)).cell 16 rfl
      have y17 : ∀ y : Lat NoX wr, y.world.cell? ⟨kx, 17, none⟩ = some (.bool inn) := fun y => (HKR.out.ext (Lat.ext0 y)).cell 17 rfl
      have yl := HKR.out.lt
      refine wp_region_lat (by kernel_rfl) NoX (boxN 20 21) (BoxR 20) (BoxG 20 21 #[.int .i64 0, .int .i64 0, .int .i64 0, .bool false, .bool false, .bool false] #[.int .i64 TH.left, .int .i64 TH.score, .int .i64 TH.darts, .bool TH.inn, .bool TH.bust, .bool TH.won] wr.heap.size) (by kernel_rfl)
        (fun k hk => by
          simp only [boxN, Bool.or_eq_true, beq_iff_eq] at hk
          rcases hk with rfl | rfl <;> decide)
        (fun L L' u w' h hg => hg.congr (h 20 rfl) (h 21 rfl)) (fun L u a b h hx => h.ext hx) (fun _ => .pointer (some ⟨0, 0, none⟩)) (fun k _ => ⟨0, fun _ => rfl⟩) ⟨fun h => (by cases h)⟩ ?_
      intro T hT hne2 u hu
      obtain ⟨k9, e_box⟩ := hu 20 rfl
      replace e_box := e_box rfl
      refine lx_next 20 (by rfl) (by decide) ?_
      dsimp only [List.take, List.drop]
      repeat (go_big_quiet_step (with_reducible refine Calls.lat hT (HVIS.out _ (HXR.out.trans (Lat.ext0 _)))))
      refine wpQuiet_nil ?_
      refine lx_loud (by rfl) (by kernel_rfl) ?_ (fun K hK => ?_)
      · intro L w4 hL hd hcl hC hs
        obtain ⟨y, rfl⟩ := hC
        have h6 := hcl.off hL 40 21 (by kernel_rfl)
        have hy := y.size
        clear hs hd hcl
        go_wp2
        exact ⟨⟨_, fun _ => rfl⟩, ⟨y.ext ((Ext.refl _).alloc _), rfl⟩, ⟨fun _ => ⟨_, rfl, hy, by rw [show upd L 20 21 = L 21 from rfl, h6]; exact Blk.new _ _ _⟩⟩⟩
      rw [e_box]
      go_simp
      with_reducible refine hK _ ?_
      clear hK K
      refine lx_loud (by rfl) (by kernel_rfl) ?_ (fun K hK => ?_)
      · intro L w4 hL hd hcl hC hs
        obtain ⟨y, rfl⟩ := hC
        obtain ⟨k, ek, hk, hbk⟩ := hs.at_ (hd 20 (by kernel_rfl))
        obtain rfl : k9 = k := by have h := e_box.symm.trans ek; cases h; rfl
        rw [hL] at hbk
        have hbk : Blk y.world k9 #[.int .i64 0, .int .i64 0, .int .i64 0, .bool false, .bool false, .bool false] := hbk
        have r0 := hbk.cell 0 (v := .int .i64 0) rfl
        have rf0 := hbk.frozen 0
        have r1 := hbk.cell 1 (v := .int .i64 0) rfl
        have rf1 := hbk.frozen 1
        have r2 := hbk.cell 2 (v := .int .i64 0) rfl
        have rf2 := hbk.frozen 2
        have r3 := hbk.cell 3 (v := .bool false) rfl
        have rf3 := hbk.frozen 3
        have r4 := hbk.cell 4 (v := .bool false) rfl
        have rf4 := hbk.frozen 4
        have r5 := hbk.cell 5 (v := .bool false) rfl
        have rf5 := hbk.frozen 5
        have rl := hbk.lt
        have HBK := Lib.hid hbk
        have HEK := Lib.hid ek
        have HHK := Lib.hid hk
        clear hs hd hcl hbk ek hk
        go_wp2
        refine ⟨⟨0, fun h => absurd h (by decide)⟩, ⟨y.chgd (six_chg (· = k9) y.world (b := k9) rfl _ _ _ _ _ _) (fun b hb => .inl (by rw [show b = k9 from hb]; exact HHK.out)), rfl⟩, ⟨fun _ => ⟨k9, HEK.out, HHK.out, six_set HBK.out _ _ _ _ _ _⟩⟩⟩
      go_simp
      with_reducible refine hK _ ?_
      clear hK K
      refine lx_next 1 (by rfl) (by decide) ?_
      dsimp only [List.take, List.drop]
      repeat (go_big_quiet_step (with_reducible refine Calls.lat hT (HVIS.out _ (HXR.out.trans (Lat.ext0 _)))))
      refine wpQuiet_nil ?_
      refine lx_nil ?_
      intro y hs
      obtain ⟨kk, ek, hk, hbk⟩ := hs.at_ rfl
      obtain rfl : k9 = kk := by have h := e_box.symm.trans ek; cases h; rfl
      have HB9 : Hid (Blk y.world k9 #[.int .i64 TH.left, .int .i64 TH.score, .int .i64 TH.darts, .bool TH.inn, .bool TH.bust, .bool TH.won]) := Lib.hid hbk
      have Hk9 : Hid (wr.heap.size ≤ k9) := Lib.hid hk
      have HXw5 := Lib.hid (Lat.ext0 y)
      clear hs hbk hk ek e_box hu hT hne2 y0 y1 y2 y16 y17 yl
      generalize y.world = w5 at *
      clear y
      go_wp2
      refine bodyPost_ret (v := .int .i64 er) (by simp [results, Try.results85, go_sem]) rfl ⟨by rw [HRE.out], HXR.out.trans HXw5.out⟩
end Go.Proofs.Ytmopadnkjlodnaa
namespace Go.Proofs.Ytmopadnkjlodnaa
open Go.RowKit Go.BigFrame
attribute [local go_sem] Oper.semAt_some Later.cell Later.frozen Lat.cell Lat.frozen NoX

set_option maxRecDepth 100000 in
set_option maxHeartbeats 8000000 in
theorem mean_tadd4 (kt : Nat) (p0 p1 p2 p3 q0 q1 q2 q3 q4 q5 q6 q7 : Value) (t : Tot) (x : Ex) (g : Gl) (w : World) (hb : Blk w kt #[p0, p1, p2, p3, .int .i64 t.legs, .int .i64 t.won, .int .i64 t.visits, .int .i64 t.points, .int .i64 t.darts.lo, .int .i64 t.darts.hi, .int .i64 t.tried.lo, .int .i64 t.tried.hi, .int .i64 t.tons, .int .i64 t.highs, .int .i64 t.tops, .int .i64 t.best, q0, q1, q2, q3, q4, q5, q6, q7]) :
    Calls Try.prog 88 #[.pointer (some ⟨kt, 4, none⟩), .agg #[.int .i64 x.dl, .int .i64 x.dh, .int .i64 x.tl, .int .i64 x.th], .agg #[.int .i64 g.score, .bool g.wins]] w fun e w' => e = .returned (.tuple #[]) ∧ Blk w' kt #[p0, p1, p2, p3, .int .i64 ((sumS t x g).legs), .int .i64 ((sumS t x g).won), .int .i64 ((sumS t x g).visits), .int .i64 ((sumS t x g).points), .int .i64 ((sumS t x g).darts.lo), .int .i64 ((sumS t x g).darts.hi), .int .i64 ((sumS t x g).tried.lo), .int .i64 ((sumS t x g).tried.hi), .int .i64 ((sumS t x g).tons), .int .i64 ((sumS t x g).highs), .int .i64 ((sumS t x g).tops), .int .i64 ((sumS t x g).best), q0, q1, q2, q3, q4, q5, q6, q7] ∧ Chg (· = kt) w w' := by
  obtain ⟨R, hR⟩ : ∃ r, sumS t x g = r := ⟨_, rfl⟩
  rw [hR]
  have HRR := Lib.hid hR
  have HB := Lib.hid hb
  obtain ⟨legs, won, visits, points, ⟨dl, dh⟩, ⟨tl, th⟩, tons, highs, tops, best⟩ := t
  obtain ⟨xl, xh, yl, yh, xs⟩ := x
  obtain ⟨gs, gw⟩ := g
  simp only at HB ⊢
  have hkt := hb.lt
  clear hR hb
  go_enter Try.func88, Try.ntmps88
  go_upto_region 1 with fail
  obtain ⟨w1, hw1⟩ : ∃ y, y = (w.alloc (.cells #[.int .i64 xl, .int .i64 xh, .int .i64 yl, .int .i64 yh] 45)).alloc (.cells #[.int .i64 gs, .bool gw] 121) := ⟨_, rfl⟩
  obtain ⟨B, hBB⟩ : ∃ y, y = w.heap.size := ⟨_, rfl⟩
  rw [← hw1, ← hBB]
  have HX1 : Hid (Ext w w1) := Lib.hid (by rw [hw1]; exact ((Ext.refl w).alloc _).alloc _)
  have K4 : Hid (Blk w1 B #[.int .i64 xl, .int .i64 xh, .int .i64 yl, .int .i64 yh]) := Lib.hid (by rw [hw1, hBB]; exact (Blk.new w _ _).alloc _)
  have K5 : Hid (Blk w1 (B + 1) #[.int .i64 gs, .bool gw]) := Lib.hid (by rw [hw1]; exact Blk.at _ (by simp [hBB]))
  have HT1 : Hid (Blk w1 kt #[p0, p1, p2, p3, .int .i64 legs, .int .i64 won, .int .i64 visits, .int .i64 points, .int .i64 dl, .int .i64 dh, .int .i64 tl, .int .i64 th, .int .i64 tons, .int .i64 highs, .int .i64 tops, .int .i64 best, q0, q1, q2, q3, q4, q5, q6, q7]) := Lib.hid (HB.out.ext HX1.out)
  have HNE : Hid (¬ B = kt ∧ ¬ B + 1 = kt) := Lib.hid ⟨by omega, by omega⟩
  clear hw1 hBB hkt
  have t2 := HT1.out.cell 6 (v := .int .i64 visits) rfl
  have tf2 := HT1.out.frozen 6
  have tl0 := HT1.out.lt
  go_upto_region 2 with fail
  have hT2 : Blk _ kt #[p0, p1, p2, p3, .int .i64 legs, .int .i64 won, .int .i64 (wrap64 (visits + 1)), .int .i64 points, .int .i64 dl, .int .i64 dh, .int .i64 tl, .int .i64 th, .int .i64 tons, .int .i64 highs, .int .i64 tops, .int .i64 best, q0, q1, q2, q3, q4, q5, q6, q7] := HT1.out.set 6 (.int .i64 (wrap64 (visits + 1)))
  have hC2 : Chg (· = kt) w1 _ := (Chg.refl (· = kt) w1).setCell (p := ⟨kt, 6, none⟩) (.inr rfl) (.int .i64 (wrap64 (visits + 1)))
  generalize World.setCell _ _ _ = w2 at hT2 hC2 ⊢
  have HT2 := Lib.hid hT2
  have HC2 := Lib.hid hC2
  clear t2 tf2 tl0 hT2 hC2
  have g0 : ∀ y : Lat (fun b _ => b = kt) w2, y.world.cell? ⟨B + 1, 0, none⟩ = some (.int .i64 gs) := fun y => ((K5.out.chg HC2.out HNE.out.2).chg y.chg (by rintro ⟨_, e⟩; exact HNE.out.2 e)).cell 0 rfl
  have gl : B + 1 < w2.heap.size := (K5.out.chg HC2.out HNE.out.2).lt
  refine wp_region_lat (by kernel_rfl) (fun b _ => b = kt) (fun k => (k == 4) || ((k == 11))) (RsIs [(4, .int .i64 points)]) (fun L _ W => Blk W kt (bif L 11 then #[p0, p1, p2, p3, .int .i64 legs, .int .i64 won, .int .i64 (wrap64 (visits + 1)), .int .i64 (wrap64 (points + gs)), .int .i64 dl, .int .i64 dh, .int .i64 tl, .int .i64 th, .int .i64 tons, .int .i64 highs, .int .i64 tops, .int .i64 best, q0, q1, q2, q3, q4, q5, q6, q7] else #[p0, p1, p2, p3, .int .i64 legs, .int .i64 won, .int .i64 (wrap64 (visits + 1)), .int .i64 points, .int .i64 dl, .int .i64 dh, .int .i64 tl, .int .i64 th, .int .i64 tons, .int .i64 highs, .int .i64 tops, .int .i64 best, q0, q1, q2, q3, q4, q5, q6, q7])) (by kernel_rfl)
    (fun k hk => by
      simp only [Bool.or_eq_true, beq_iff_eq] at hk
      rcases hk with rfl | rfl <;> decide)
    (fun L L' u w' h hg => by first | (rw [h 11 (by rfl)]; exact hg) | exact hg) (fun L u a b h hx => h.ext hx) (rsW [(4, .int .i64 points)]) (fun k _ => rsW_ok _ k) (HT2.out.ext (Ext.refl w2).drew) ?_
  intro T hT hne2 u hu
  have e_4 : u 4 = .int .i64 points := hu 4 rfl
  refine lx_next 4 (by rfl) (by decide) ?_
  dsimp only [List.take, List.drop]
  repeat (go_big_quiet_step (fail))
  refine wpQuiet_nil ?_
  refine lx_loud (by rfl) (by kernel_rfl) ?_ (fun K hK => ?_)
  · intro L w4 hL hd hcl hC hs
    obtain ⟨y, rfl⟩ := hC
    have d11 := hcl.off hL 40 11 (by kernel_rfl)
    rw [d11] at hs
    have hs : Blk y.world kt #[p0, p1, p2, p3, .int .i64 legs, .int .i64 won, .int .i64 (wrap64 (visits + 1)), .int .i64 points, .int .i64 dl, .int .i64 dh, .int .i64 tl, .int .i64 th, .int .i64 tons, .int .i64 highs, .int .i64 tops, .int .i64 best, q0, q1, q2, q3, q4, q5, q6, q7] := hs
    have r0 := hs.cell 7 (v := .int .i64 points) rfl
    have rl := hs.lt
    have HS := Lib.hid hs
    have D11 := Lib.hid d11
    have HLL := Lib.hid hL
    clear hs hd hcl hL d11
    go_wp2
    exact ⟨rfl, ⟨y, rfl⟩, by first | (rw [show upd L 4 11 = L 11 from rfl, D11.out]; exact HS.out) | exact HS.out⟩
  rw [e_4]
  go_simp
  with_reducible refine hK _ ?_
  clear hK K
  refine lx_next 6 (by rfl) (by decide) ?_
  dsimp only [List.take, List.drop]
  repeat (go_big_quiet_step (fail))
  refine wpQuiet_nil ?_
  refine lx_loud (by rfl) (by kernel_rfl) ?_ (fun K hK => ?_)
  · intro L w4 hL hd hcl hC hs
    obtain ⟨y, rfl⟩ := hC
    rw [hL] at hs
    have hs : Blk y.world kt #[p0, p1, p2, p3, .int .i64 legs, .int .i64 won, .int .i64 (wrap64 (visits + 1)), .int .i64 points, .int .i64 dl, .int .i64 dh, .int .i64 tl, .int .i64 th, .int .i64 tons, .int .i64 highs, .int .i64 tops, .int .i64 best, q0, q1, q2, q3, q4, q5, q6, q7] := hs
    have r0 := hs.cell 7 (v := .int .i64 points) rfl
    have rf0 := hs.frozen 7
    have rl := hs.lt
    have HS := Lib.hid hs
    have HLL := Lib.hid hL
    clear hs hd hcl hL
    go_wp2
    have hb0 : Blk _ kt #[p0, p1, p2, p3, .int .i64 legs, .int .i64 won, .int .i64 (wrap64 (visits + 1)), .int .i64 (wrap64 (points + gs)), .int .i64 dl, .int .i64 dh, .int .i64 tl, .int .i64 th, .int .i64 tons, .int .i64 highs, .int .i64 tops, .int .i64 best, q0, q1, q2, q3, q4, q5, q6, q7] := HS.out.set 7 (.int .i64 (wrap64 (points + gs)))
    exact ⟨trivial, ⟨y.chgd ((Chg.refl (· = kt) y.world).setCell (.inr rfl) (.int .i64 (wrap64 (points + gs)))) (fun b hb => .inr fun _ => hb), rfl⟩, by first | (rw [show upd L 11 11 = true from rfl]; exact hb0) | exact hb0⟩
  go_simp
  with_reducible refine hK _ ?_
  clear hK K
  refine lx_nil ?_
  intro y hs
  have HT3 : Hid (Blk y.world kt #[p0, p1, p2, p3, .int .i64 legs, .int .i64 won, .int .i64 (wrap64 (visits + 1)), .int .i64 (wrap64 (points + gs)), .int .i64 dl, .int .i64 dh, .int .i64 tl, .int .i64 th, .int .i64 tons, .int .i64 highs, .int .i64 tops, .int .i64 best, q0, q1, q2, q3, q4, q5, q6, q7]) := Lib.hid hs
  have HCw3 : Hid (Chg (· = kt) w2 y.world) := Lib.hid (y.chg.mono (by rintro q - ⟨_, e⟩; exact e))
  clear hs hu hT hne2 e_4 g0 gl
  generalize y.world = w3 at *
  clear y
  have HC3 := Lib.hid (HC2.out.trans HCw3.out)
  have x0 : ∀ y : Lat (fun b _ => b = kt) w3, y.world.cell? ⟨B, 0, none⟩ = some (.int .i64 xl) := fun y => ((K4.out.chg HC3.out HNE.out.1).chg y.chg (by rintro ⟨_, e⟩; exact HNE.out.1 e)).cell 0 rfl
  have x1 : ∀ y : Lat (fun b _ => b = kt) w3, y.world.cell? ⟨B, 1, none⟩ = some (.int .i64 xh) := fun y => ((K4.out.chg HC3.out HNE.out.1).chg y.chg (by rintro ⟨_, e⟩; exact HNE.out.1 e)).cell 1 rfl
  have x2 : ∀ y : Lat (fun b _ => b = kt) w3, y.world.cell? ⟨B, 2, none⟩ = some (.int .i64 yl) := fun y => ((K4.out.chg HC3.out HNE.out.1).chg y.chg (by rintro ⟨_, e⟩; exact HNE.out.1 e)).cell 2 rfl
  have x3 : ∀ y : Lat (fun b _ => b = kt) w3, y.world.cell? ⟨B, 3, none⟩ = some (.int .i64 yh) := fun y => ((K4.out.chg HC3.out HNE.out.1).chg y.chg (by rintro ⟨_, e⟩; exact HNE.out.1 e)).cell 3 rfl
  have xbl : B < w3.heap.size := (K4.out.chg HC3.out HNE.out.1).lt
  go_upto_region 3 with fail
  refine wp_region_lat (by kernel_rfl) (fun b _ => b = kt) (fun k => (k == 6) || ((k == 14) || ((k == 21) || ((k == 25))))) (RsIs [(6, .agg #[.int .i64 dl, .int .i64 dh]), (14, .agg #[.int .i64 tl, .int .i64 th])]) (fun L _ W => Blk W kt (bif L 25 then #[p0, p1, p2, p3, .int .i64 legs, .int .i64 won, .int .i64 (wrap64 (visits + 1)), .int .i64 (wrap64 (points + gs)), .int .i64 (wrap64 (dl + xl)), .int .i64 (wrap64 (dh + xh)), .int .i64 (wrap64 (tl + yl)), .int .i64 (wrap64 (th + yh)), .int .i64 tons, .int .i64 highs, .int .i64 tops, .int .i64 best, q0, q1, q2, q3, q4, q5, q6, q7] else (bif L 21 then #[p0, p1, p2, p3, .int .i64 legs, .int .i64 won, .int .i64 (wrap64 (visits + 1)), .int .i64 (wrap64 (points + gs)), .int .i64 (wrap64 (dl + xl)), .int .i64 (wrap64 (dh + xh)), .int .i64 tl, .int .i64 th, .int .i64 tons, .int .i64 highs, .int .i64 tops, .int .i64 best, q0, q1, q2, q3, q4, q5, q6, q7] else #[p0, p1, p2, p3, .int .i64 legs, .int .i64 won, .int .i64 (wrap64 (visits + 1)), .int .i64 (wrap64 (points + gs)), .int .i64 dl, .int .i64 dh, .int .i64 tl, .int .i64 th, .int .i64 tons, .int .i64 highs, .int .i64 tops, .int .i64 best, q0, q1, q2, q3, q4, q5, q6, q7]))) (by kernel_rfl)
    (fun k hk => by
      simp only [Bool.or_eq_true, beq_iff_eq] at hk
      rcases hk with rfl | rfl | rfl | rfl <;> decide)
    (fun L L' u w' h hg => by first | (rw [h 21 (by rfl), h 25 (by rfl)]; exact hg) | exact hg) (fun L u a b h hx => h.ext hx) (rsW [(6, .agg #[.int .i64 dl, .int .i64 dh]), (14, .agg #[.int .i64 tl, .int .i64 th])]) (fun k _ => rsW_ok _ k) (HT3.out.ext (Ext.refl w3).drew) ?_
  intro T hT hne2 u hu
  have e_6 : u 6 = .agg #[.int .i64 dl, .int .i64 dh] := hu 6 rfl
  have e_14 : u 14 = .agg #[.int .i64 tl, .int .i64 th] := hu 14 rfl
  refine lx_next 6 (by rfl) (by decide) ?_
  dsimp only [List.take, List.drop]
  repeat (go_big_quiet_step (first | with_reducible refine Calls.lat hT (mean_plus dl dh xl xh _) | with_reducible refine Calls.lat hT (mean_plus tl th yl yh _)))
  refine wpQuiet_nil ?_
  refine lx_loud (by rfl) (by kernel_rfl) ?_ (fun K hK => ?_)
  · intro L w4 hL hd hcl hC hs
    obtain ⟨y, rfl⟩ := hC
    have d21 := hcl.off hL 40 21 (by kernel_rfl)
    have d25 := hcl.off hL 40 25 (by kernel_rfl)
    rw [d21, d25] at hs
    have hs : Blk y.world kt #[p0, p1, p2, p3, .int .i64 legs, .int .i64 won, .int .i64 (wrap64 (visits + 1)), .int .i64 (wrap64 (points + gs)), .int .i64 dl, .int .i64 dh, .int .i64 tl, .int .i64 th, .int .i64 tons, .int .i64 highs, .int .i64 tops, .int .i64 best, q0, q1, q2, q3, q4, q5, q6, q7] := hs
    have r0 := hs.cell 8 (v := .int .i64 dl) rfl
    have r1 := hs.cell 9 (v := .int .i64 dh) rfl
    have rl := hs.lt
    have HS := Lib.hid hs
    have D21 := Lib.hid d21
    have D25 := Lib.hid d25
    have HLL := Lib.hid hL
    clear hs hd hcl hL d21 d25
    go_wp2
    exact ⟨rfl, ⟨y, rfl⟩, by first | (rw [show upd L 6 21 = L 21 from rfl, D21.out, show upd L 6 25 = L 25 from rfl, D25.out]; exact HS.out) | exact HS.out⟩
  rw [e_6]
  go_simp
  with_reducible refine hK _ ?_
  clear hK K
  refine lx_next 7 (by rfl) (by decide) ?_
  dsimp only [List.take, List.drop]
  repeat (go_big_quiet_step (first | with_reducible refine Calls.lat hT (mean_plus dl dh xl xh _) | with_reducible refine Calls.lat hT (mean_plus tl th yl yh _)))
  refine wpQuiet_nil ?_
  refine lx_loud (by rfl) (by kernel_rfl) ?_ (fun K hK => ?_)
  · intro L w4 hL hd hcl hC hs
    obtain ⟨y, rfl⟩ := hC
    have d21 := hcl.off hL 40 21 (by kernel_rfl)
    have d25 := hcl.off hL 40 25 (by kernel_rfl)
    rw [d21, d25] at hs
    have hs : Blk y.world kt #[p0, p1, p2, p3, .int .i64 legs, .int .i64 won, .int .i64 (wrap64 (visits + 1)), .int .i64 (wrap64 (points + gs)), .int .i64 dl, .int .i64 dh, .int .i64 tl, .int .i64 th, .int .i64 tons, .int .i64 highs, .int .i64 tops, .int .i64 best, q0, q1, q2, q3, q4, q5, q6, q7] := hs
    have r0 := hs.cell 10 (v := .int .i64 tl) rfl
    have r1 := hs.cell 11 (v := .int .i64 th) rfl
    have rl := hs.lt
    have HS := Lib.hid hs
    have D21 := Lib.hid d21
    have D25 := Lib.hid d25
    have HLL := Lib.hid hL
    clear hs hd hcl hL d21 d25
    go_wp2
    exact ⟨rfl, ⟨y, rfl⟩, by first | (rw [show upd L 14 21 = L 21 from rfl, D21.out, show upd L 14 25 = L 25 from rfl, D25.out]; exact HS.out) | exact HS.out⟩
  rw [e_14]
  go_simp
  with_reducible refine hK _ ?_
  clear hK K
  refine lx_next 6 (by rfl) (by decide) ?_
  dsimp only [List.take, List.drop]
  repeat (go_big_quiet_step (first | with_reducible refine Calls.lat hT (mean_plus dl dh xl xh _) | with_reducible refine Calls.lat hT (mean_plus tl th yl yh _)))
  refine wpQuiet_nil ?_
  refine lx_loud (by rfl) (by kernel_rfl) ?_ (fun K hK => ?_)
  · intro L w4 hL hd hcl hC hs
    obtain ⟨y, rfl⟩ := hC
    have d25 := hcl.off hL 40 25 (by kernel_rfl)
    rw [hL, d25] at hs
    have hs : Blk y.world kt #[p0, p1, p2, p3, .int .i64 legs, .int .i64 won, .int .i64 (wrap64 (visits + 1)), .int .i64 (wrap64 (points + gs)), .int .i64 dl, .int .i64 dh, .int .i64 tl, .int .i64 th, .int .i64 tons, .int .i64 highs, .int .i64 tops, .int .i64 best, q0, q1, q2, q3, q4, q5, q6, q7] := hs
    have r0 := hs.cell 8 (v := .int .i64 dl) rfl
    have r1 := hs.cell 9 (v := .int .i64 dh) rfl
    have rf0 := hs.frozen 8
    have rf1 := hs.frozen 9
    have rl := hs.lt
    have HS := Lib.hid hs
    have D25 := Lib.hid d25
    have HLL := Lib.hid hL
    clear hs hd hcl hL d25
    go_wp2
    have hb0 : Blk _ kt #[p0, p1, p2, p3, .int .i64 legs, .int .i64 won, .int .i64 (wrap64 (visits + 1)), .int .i64 (wrap64 (points + gs)), .int .i64 (wrap64 (dl + xl)), .int .i64 dh, .int .i64 tl, .int .i64 th, .int .i64 tons, .int .i64 highs, .int .i64 tops, .int .i64 best, q0, q1, q2, q3, q4, q5, q6, q7] := HS.out.set 8 (.int .i64 (wrap64 (dl + xl)))
    have hb1 : Blk _ kt #[p0, p1, p2, p3, .int .i64 legs, .int .i64 won, .int .i64 (wrap64 (visits + 1)), .int .i64 (wrap64 (points + gs)), .int .i64 (wrap64 (dl + xl)), .int .i64 (wrap64 (dh + xh)), .int .i64 tl, .int .i64 th, .int .i64 tons, .int .i64 highs, .int .i64 tops, .int .i64 best, q0, q1, q2, q3, q4, q5, q6, q7] := hb0.set 9 (.int .i64 (wrap64 (dh + xh)))
    exact ⟨trivial, ⟨y.chgd (((Chg.refl (· = kt) y.world).setCell (.inr rfl) (.int .i64 (wrap64 (dl + xl)))).setCell (.inr rfl) (.int .i64 (wrap64 (dh + xh)))) (fun b hb => .inr fun _ => hb), rfl⟩, by first | (rw [show upd L 21 21 = true from rfl, show upd L 21 25 = L 25 from rfl, D25.out]; exact hb1) | exact hb0⟩
  go_simp
  with_reducible refine hK _ ?_
  clear hK K
  refine lx_next 3 (by rfl) (by decide) ?_
  dsimp only [List.take, List.drop]
  repeat (go_big_quiet_step (first | with_reducible refine Calls.lat hT (mean_plus dl dh xl xh _) | with_reducible refine Calls.lat hT (mean_plus tl th yl yh _)))
  refine wpQuiet_nil ?_
  refine lx_loud (by rfl) (by kernel_rfl) ?_ (fun K hK => ?_)
  · intro L w4 hL hd hcl hC hs
    obtain ⟨y, rfl⟩ := hC
    have d21 := hd 21 (by kernel_rfl)
    rw [hL, d21] at hs
    have hs : Blk y.world kt #[p0, p1, p2, p3, .int .i64 legs, .int .i64 won, .int .i64 (wrap64 (visits + 1)), .int .i64 (wrap64 (points + gs)), .int .i64 (wrap64 (dl + xl)), .int .i64 (wrap64 (dh + xh)), .int .i64 tl, .int .i64 th, .int .i64 tons, .int .i64 highs, .int .i64 tops, .int .i64 best, q0, q1, q2, q3, q4, q5, q6, q7] := hs
    have r0 := hs.cell 10 (v := .int .i64 tl) rfl
    have r1 := hs.cell 11 (v := .int .i64 th) rfl
    have rf0 := hs.frozen 10
    have rf1 := hs.frozen 11
    have rl := hs.lt
    have HS := Lib.hid hs
    have D21 := Lib.hid d21
    have HLL := Lib.hid hL
    clear hs hd hcl hL d21
    go_wp2
    have hb0 : Blk _ kt #[p0, p1, p2, p3, .int .i64 legs, .int .i64 won, .int .i64 (wrap64 (visits + 1)), .int .i64 (wrap64 (points + gs)), .int .i64 (wrap64 (dl + xl)), .int .i64 (wrap64 (dh + xh)), .int .i64 (wrap64 (tl + yl)), .int .i64 th, .int .i64 tons, .int .i64 highs, .int .i64 tops, .int .i64 best, q0, q1, q2, q3, q4, q5, q6, q7] := HS.out.set 10 (.int .i64 (wrap64 (tl + yl)))
    have hb1 : Blk _ kt #[p0, p1, p2, p3, .int .i64 legs, .int .i64 won, .int .i64 (wrap64 (visits + 1)), .int .i64 (wrap64 (points + gs)), .int .i64 (wrap64 (dl + xl)), .int .i64 (wrap64 (dh + xh)), .int .i64 (wrap64 (tl + yl)), .int .i64 (wrap64 (th + yh)), .int .i64 tons, .int .i64 highs, .int .i64 tops, .int .i64 best, q0, q1, q2, q3, q4, q5, q6, q7] := hb0.set 11 (.int .i64 (wrap64 (th + yh)))
    exact ⟨trivial, ⟨y.chgd (((Chg.refl (· = kt) y.world).setCell (.inr rfl) (.int .i64 (wrap64 (tl + yl)))).setCell (.inr rfl) (.int .i64 (wrap64 (th + yh)))) (fun b hb => .inr fun _ => hb), rfl⟩, by first | (rw [show upd L 25 21 = L 21 from rfl, D21.out, show upd L 25 25 = true from rfl]; exact hb1) | exact hb0⟩
  go_simp
  with_reducible refine hK _ ?_
  clear hK K
  refine lx_nil ?_
  intro y hs
  have HT4 : Hid (Blk y.world kt #[p0, p1, p2, p3, .int .i64 legs, .int .i64 won, .int .i64 (wrap64 (visits + 1)), .int .i64 (wrap64 (points + gs)), .int .i64 (wrap64 (dl + xl)), .int .i64 (wrap64 (dh + xh)), .int .i64 (wrap64 (tl + yl)), .int .i64 (wrap64 (th + yh)), .int .i64 tons, .int .i64 highs, .int .i64 tops, .int .i64 best, q0, q1, q2, q3, q4, q5, q6, q7]) := Lib.hid hs
  have HCw4 : Hid (Chg (· = kt) w3 y.world) := Lib.hid (y.chg.mono (by rintro q - ⟨_, e⟩; exact e))
  clear hs hu hT hne2 e_6 e_14 x0 x1 x2 x3 xbl
  generalize y.world = w4 at *
  clear y
  have HC4 := Lib.hid (HC3.out.trans HCw4.out)
  have h40 := (K5.out.chg HC4.out HNE.out.2).cell 0 (v := .int .i64 gs) rfl
  have h41 := (K5.out.chg HC4.out HNE.out.2).cell 1 (v := .bool gw) rfl
  have hl4 := (K5.out.chg HC4.out HNE.out.2).lt
  obtain ⟨b0, hb0⟩ : ∃ b, decide (100 ≤ gs) = b := ⟨_, rfl⟩
  obtain ⟨b1, hb1⟩ : ∃ b, decide (140 ≤ gs) = b := ⟨_, rfl⟩
  obtain ⟨b2, hb2⟩ : ∃ b, (gs == 180) = b := ⟨_, rfl⟩
  have HBS := Lib.hid (And.intro hb0 (And.intro hb1 hb2))
  go_upto_region 4 with fail
  refine wp_region_later (by kernel_rfl) (by kernel_rfl) ?_
  repeat (go_big_quiet_step (fail))
  refine wpQuiet_nil ?_
  intro w5 hw5
  obtain ⟨⟨w5, hx5⟩, rfl⟩ := hw5
  have HX5 := Lib.hid hx5
  have HT5 : Hid (Blk w5 kt #[p0, p1, p2, p3, .int .i64 legs, .int .i64 (cntK gw 3 0 won), .int .i64 (wrap64 (visits + 1)), .int .i64 (wrap64 (points + gs)), .int .i64 (wrap64 (dl + xl)), .int .i64 (wrap64 (dh + xh)), .int .i64 (wrap64 (tl + yl)), .int .i64 (wrap64 (th + yh)), .int .i64 (cntK b0 0 0 tons), .int .i64 (cntK b1 1 0 highs), .int .i64 (cntK b2 2 0 tops), .int .i64 best, q0, q1, q2, q3, q4, q5, q6, q7]) := Lib.hid (by
    have h := HT4.out.ext hx5
    cases b0 <;> cases b1 <;> cases b2 <;> cases gw <;> exact h)
  have HK5 := Lib.hid ((K5.out.chg HC4.out HNE.out.2).ext hx5)
  clear h40 h41 hl4 hx5 hb0 hb1 hb2
  go_wp2
  go_loopw [84] (fun i wr => ∃ k : Nat, k ≤ 4 ∧ i = .int .i64 k ∧ Blk wr kt #[p0, p1, p2, p3, .int .i64 legs, .int .i64 (cntK gw 3 k won), .int .i64 (wrap64 (visits + 1)), .int .i64 (wrap64 (points + gs)), .int .i64 (wrap64 (dl + xl)), .int .i64 (wrap64 (dh + xh)), .int .i64 (wrap64 (tl + yl)), .int .i64 (wrap64 (th + yh)), .int .i64 (cntK b0 0 k tons), .int .i64 (cntK b1 1 k highs), .int .i64 (cntK b2 2 k tops), .int .i64 best, q0, q1, q2, q3, q4, q5, q6, q7] ∧ Chg (· = kt) w5 wr) (fun i _ => 4 - (intOf i).toNat)
  case atStart => exact ⟨0, by omega, rfl, HT5.out, Chg.refl _ _⟩
  case round =>
    obtain ⟨k, hk, rfl, hbk, hck⟩ := hrel
    obtain rfl | rfl | rfl | rfl | rfl : k = 0 ∨ k = 1 ∨ k = 2 ∨ k = 3 ∨ k = 4 := by omega
    · have e0 : ((0 : Nat) : Int) = 0 := rfl
      rw [e0]
      clear e0
      have HBK : Hid (Blk wr kt #[p0, p1, p2, p3, .int .i64 legs, .int .i64 (cntK gw 3 0 won), .int .i64 (wrap64 (visits + 1)), .int .i64 (wrap64 (points + gs)), .int .i64 (wrap64 (dl + xl)), .int .i64 (wrap64 (dh + xh)), .int .i64 (wrap64 (tl + yl)), .int .i64 (wrap64 (th + yh)), .int .i64 (cntK b0 0 0 tons), .int .i64 (cntK b1 1 0 highs), .int .i64 (cntK b2 2 0 tops), .int .i64 best, q0, q1, q2, q3, q4, q5, q6, q7]) := Lib.hid hbk
      have HCK := Lib.hid hck
      have HXA : Hid (Ext wr (wr.alloc (.cells #[.bool b0, .pointer (some ⟨kt, 12, none⟩)] 187))) := Lib.hid ((Ext.refl wr).alloc _)
      clear hbk hck
      go_wp2_with fail
      rename_i K0 a0
      refine a0 _ _ ?_
      rw [show ((#[.bool b0, .pointer (some ⟨kt, 12, none⟩), .bool b1, .pointer (some ⟨kt, 13, none⟩), .bool b2, .pointer (some ⟨kt, 14, none⟩), .bool gw, .pointer (some ⟨kt, 5, none⟩)] : Array Value).extract (Int.toNat 0 * (Try.prog.types[187]'(of_decide_eq_true (by kernel_rfl))).size) (Int.toNat 0 * (Try.prog.types[187]'(of_decide_eq_true (by kernel_rfl))).size + (Try.prog.types[187]'(of_decide_eq_true (by kernel_rfl))).size)) = (#[.bool b0, .pointer (some ⟨kt, 12, none⟩)] : Array Value) from rfl]
      cases b0
      · go_wp2
        go_roundw
        case rel =>
          have hn : Blk _ kt #[p0, p1, p2, p3, .int .i64 legs, .int .i64 (cntK gw 3 1 won), .int .i64 (wrap64 (visits + 1)), .int .i64 (wrap64 (points + gs)), .int .i64 (wrap64 (dl + xl)), .int .i64 (wrap64 (dh + xh)), .int .i64 (wrap64 (tl + yl)), .int .i64 (wrap64 (th + yh)), .int .i64 (cntK false 0 1 tons), .int .i64 (cntK b1 1 1 highs), .int .i64 (cntK b2 2 1 tops), .int .i64 best, q0, q1, q2, q3, q4, q5, q6, q7] := HBK.out.ext HXA.out
          exact ⟨1, by omega, rfl, hn, HCK.out.ext' HXA.out⟩
        case measure => simp [intOf]
      · have r0 := HBK.out.cell 12 (v := .int .i64 tons) rfl
        have rf0 := HBK.out.frozen 12
        have rl := HBK.out.lt
        go_wp2
        go_roundw
        case rel =>
          have hn : Blk _ kt #[p0, p1, p2, p3, .int .i64 legs, .int .i64 (cntK gw 3 0 won), .int .i64 (wrap64 (visits + 1)), .int .i64 (wrap64 (points + gs)), .int .i64 (wrap64 (dl + xl)), .int .i64 (wrap64 (dh + xh)), .int .i64 (wrap64 (tl + yl)), .int .i64 (wrap64 (th + yh)), .int .i64 (wrap64 (tons + 1)), .int .i64 (cntK b1 1 0 highs), .int .i64 (cntK b2 2 0 tops), .int .i64 best, q0, q1, q2, q3, q4, q5, q6, q7] := HBK.out.set 12 (.int .i64 (wrap64 (tons + 1)))
          exact ⟨1, by omega, rfl, hn.alloc _, (HCK.out.setCell (.inr rfl) _).alloc _⟩
        case measure => simp [intOf]
    · have e0 : ((1 : Nat) : Int) = 1 := rfl
      rw [e0]
      clear e0
      have HBK : Hid (Blk wr kt #[p0, p1, p2, p3, .int .i64 legs, .int .i64 (cntK gw 3 1 won), .int .i64 (wrap64 (visits + 1)), .int .i64 (wrap64 (points + gs)), .int .i64 (wrap64 (dl + xl)), .int .i64 (wrap64 (dh + xh)), .int .i64 (wrap64 (tl + yl)), .int .i64 (wrap64 (th + yh)), .int .i64 (cntK b0 0 1 tons), .int .i64 (cntK b1 1 1 highs), .int .i64 (cntK b2 2 1 tops), .int .i64 best, q0, q1, q2, q3, q4, q5, q6, q7]) := Lib.hid hbk
      have HCK := Lib.hid hck
      have HXA : Hid (Ext wr (wr.alloc (.cells #[.bool b1, .pointer (some ⟨kt, 13, none⟩)] 187))) := Lib.hid ((Ext.refl wr).alloc _)
      clear hbk hck
      go_wp2_with fail
      rename_i K0 a0
      refine a0 _ _ ?_
      rw [show ((#[.bool b0, .pointer (some ⟨kt, 12, none⟩), .bool b1, .pointer (some ⟨kt, 13, none⟩), .bool b2, .pointer (some ⟨kt, 14, none⟩), .bool gw, .pointer (some ⟨kt, 5, none⟩)] : Array Value).extract (Int.toNat 1 * (Try.prog.types[187]'(of_decide_eq_true (by kernel_rfl))).size) (Int.toNat 1 * (Try.prog.types[187]'(of_decide_eq_true (by kernel_rfl))).size + (Try.prog.types[187]'(of_decide_eq_true (by kernel_rfl))).size)) = (#[.bool b1, .pointer (some ⟨kt, 13, none⟩)] : Array Value) from rfl]
      cases b1
      · go_wp2
        go_roundw
        case rel =>
          have hn : Blk _ kt #[p0, p1, p2, p3, .int .i64 legs, .int .i64 (cntK gw 3 2 won), .int .i64 (wrap64 (visits + 1)), .int .i64 (wrap64 (points + gs)), .int .i64 (wrap64 (dl + xl)), .int .i64 (wrap64 (dh + xh)), .int .i64 (wrap64 (tl + yl)), .int .i64 (wrap64 (th + yh)), .int .i64 (cntK b0 0 2 tons), .int .i64 (cntK false 1 2 highs), .int .i64 (cntK b2 2 2 tops), .int .i64 best, q0, q1, q2, q3, q4, q5, q6, q7] := HBK.out.ext HXA.out
          exact ⟨2, by omega, rfl, hn, HCK.out.ext' HXA.out⟩
        case measure => simp [intOf]
      · have r0 := HBK.out.cell 13 (v := .int .i64 highs) rfl
        have rf0 := HBK.out.frozen 13
        have rl := HBK.out.lt
        go_wp2
        go_roundw
        case rel =>
          have hn : Blk _ kt #[p0, p1, p2, p3, .int .i64 legs, .int .i64 (cntK gw 3 1 won), .int .i64 (wrap64 (visits + 1)), .int .i64 (wrap64 (points + gs)), .int .i64 (wrap64 (dl + xl)), .int .i64 (wrap64 (dh + xh)), .int .i64 (wrap64 (tl + yl)), .int .i64 (wrap64 (th + yh)), .int .i64 (cntK b0 0 1 tons), .int .i64 (wrap64 (highs + 1)), .int .i64 (cntK b2 2 1 tops), .int .i64 best, q0, q1, q2, q3, q4, q5, q6, q7] := HBK.out.set 13 (.int .i64 (wrap64 (highs + 1)))
          exact ⟨2, by omega, rfl, hn.alloc _, (HCK.out.setCell (.inr rfl) _).alloc _⟩
        case measure => simp [intOf]
    · have e0 : ((2 : Nat) : Int) = 2 := rfl
      rw [e0]
      clear e0
      have HBK : Hid (Blk wr kt #[p0, p1, p2, p3, .int .i64 legs, .int .i64 (cntK gw 3 2 won), .int .i64 (wrap64 (visits + 1)), .int .i64 (wrap64 (points + gs)), .int .i64 (wrap64 (dl + xl)), .int .i64 (wrap64 (dh + xh)), .int .i64 (wrap64 (tl + yl)), .int .i64 (wrap64 (th + yh)), .int .i64 (cntK b0 0 2 tons), .int .i64 (cntK b1 1 2 highs), .int .i64 (cntK b2 2 2 tops), .int .i64 best, q0, q1, q2, q3, q4, q5, q6, q7]) := Lib.hid hbk
      have HCK := Lib.hid hck
      have HXA : Hid (Ext wr (wr.alloc (.cells #[.bool b2, .pointer (some ⟨kt, 14, none⟩)] 187))) := Lib.hid ((Ext.refl wr).alloc _)
      clear hbk hck
      go_wp2_with fail
      rename_i K0 a0
      refine a0 _ _ ?_
      rw [show ((#[.bool b0, .pointer (some ⟨kt, 12, none⟩), .bool b1, .pointer (some ⟨kt, 13, none⟩), .bool b2, .pointer (some ⟨kt, 14, none⟩), .bool gw, .pointer (some ⟨kt, 5, none⟩)] : Array Value).extract (Int.toNat 2 * (Try.prog.types[187]'(of_decide_eq_true (by kernel_rfl))).size) (Int.toNat 2 * (Try.prog.types[187]'(of_decide_eq_true (by kernel_rfl))).size + (Try.prog.types[187]'(of_decide_eq_true (by kernel_rfl))).size)) = (#[.bool b2, .pointer (some ⟨kt, 14, none⟩)] : Array Value) from rfl]
      cases b2
      · go_wp2
        go_roundw
        case rel =>
          have hn : Blk _ kt #[p0, p1, p2, p3, .int .i64 legs, .int .i64 (cntK gw 3 3 won), .int .i64 (wrap64 (visits + 1)), .int .i64 (wrap64 (points + gs)), .int .i64 (wrap64 (dl + xl)), .int .i64 (wrap64 (dh + xh)), .int .i64 (wrap64 (tl + yl)), .int .i64 (wrap64 (th + yh)), .int .i64 (cntK b0 0 3 tons), .int .i64 (cntK b1 1 3 highs), .int .i64 (cntK false 2 3 tops), .int .i64 best, q0, q1, q2, q3, q4, q5, q6, q7] := HBK.out.ext HXA.out
          exact ⟨3, by omega, rfl, hn, HCK.out.ext' HXA.out⟩
        case measure => simp [intOf]
      · have r0 := HBK.out.cell 14 (v := .int .i64 tops) rfl
        have rf0 := HBK.out.frozen 14
        have rl := HBK.out.lt
        go_wp2
        go_roundw
        case rel =>
          have hn : Blk _ kt #[p0, p1, p2, p3, .int .i64 legs, .int .i64 (cntK gw 3 2 won), .int .i64 (wrap64 (visits + 1)), .int .i64 (wrap64 (points + gs)), .int .i64 (wrap64 (dl + xl)), .int .i64 (wrap64 (dh + xh)), .int .i64 (wrap64 (tl + yl)), .int .i64 (wrap64 (th + yh)), .int .i64 (cntK b0 0 2 tons), .int .i64 (cntK b1 1 2 highs), .int .i64 (wrap64 (tops + 1)), .int .i64 best, q0, q1, q2, q3, q4, q5, q6, q7] := HBK.out.set 14 (.int .i64 (wrap64 (tops + 1)))
          exact ⟨3, by omega, rfl, hn.alloc _, (HCK.out.setCell (.inr rfl) _).alloc _⟩
        case measure => simp [intOf]
    · have e0 : ((3 : Nat) : Int) = 3 := rfl
      rw [e0]
      clear e0
      have HBK : Hid (Blk wr kt #[p0, p1, p2, p3, .int .i64 legs, .int .i64 (cntK gw 3 3 won), .int .i64 (wrap64 (visits + 1)), .int .i64 (wrap64 (points + gs)), .int .i64 (wrap64 (dl + xl)), .int .i64 (wrap64 (dh + xh)), .int .i64 (wrap64 (tl + yl)), .int .i64 (wrap64 (th + yh)), .int .i64 (cntK b0 0 3 tons), .int .i64 (cntK b1 1 3 highs), .int .i64 (cntK b2 2 3 tops), .int .i64 best, q0, q1, q2, q3, q4, q5, q6, q7]) := Lib.hid hbk
      have HCK := Lib.hid hck
      have HXA : Hid (Ext wr (wr.alloc (.cells #[.bool gw, .pointer (some ⟨kt, 5, none⟩)] 187))) := Lib.hid ((Ext.refl wr).alloc _)
      clear hbk hck
      go_wp2_with fail
      rename_i K0 a0
      refine a0 _ _ ?_
      rw [show ((#[.bool b0, .pointer (some ⟨kt, 12, none⟩), .bool b1, .pointer (some ⟨kt, 13, none⟩), .bool b2, .pointer (some ⟨kt, 14, none⟩), .bool gw, .pointer (some ⟨kt, 5, none⟩)] : Array Value).extract (Int.toNat 3 * (Try.prog.types[187]'(of_decide_eq_true (by kernel_rfl))).size) (Int.toNat 3 * (Try.prog.types[187]'(of_decide_eq_true (by kernel_rfl))).size + (Try.prog.types[187]'(of_decide_eq_true (by kernel_rfl))).size)) = (#[.bool gw, .pointer (some ⟨kt, 5, none⟩)] : Array Value) from rfl]
      cases gw
      · go_wp2
        go_roundw
        case rel =>
          have hn : Blk _ kt #[p0, p1, p2, p3, .int .i64 legs, .int .i64 (cntK false 3 4 won), .int .i64 (wrap64 (visits + 1)), .int .i64 (wrap64 (points + gs)), .int .i64 (wrap64 (dl + xl)), .int .i64 (wrap64 (dh + xh)), .int .i64 (wrap64 (tl + yl)), .int .i64 (wrap64 (th + yh)), .int .i64 (cntK b0 0 4 tons), .int .i64 (cntK b1 1 4 highs), .int .i64 (cntK b2 2 4 tops), .int .i64 best, q0, q1, q2, q3, q4, q5, q6, q7] := HBK.out.ext HXA.out
          exact ⟨4, by omega, rfl, hn, HCK.out.ext' HXA.out⟩
        case measure => simp [intOf]
      · have r0 := HBK.out.cell 5 (v := .int .i64 won) rfl
        have rf0 := HBK.out.frozen 5
        have rl := HBK.out.lt
        go_wp2
        go_roundw
        case rel =>
          have hn : Blk _ kt #[p0, p1, p2, p3, .int .i64 legs, .int .i64 (wrap64 (won + 1)), .int .i64 (wrap64 (visits + 1)), .int .i64 (wrap64 (points + gs)), .int .i64 (wrap64 (dl + xl)), .int .i64 (wrap64 (dh + xh)), .int .i64 (wrap64 (tl + yl)), .int .i64 (wrap64 (th + yh)), .int .i64 (cntK b0 0 3 tons), .int .i64 (cntK b1 1 3 highs), .int .i64 (cntK b2 2 3 tops), .int .i64 best, q0, q1, q2, q3, q4, q5, q6, q7] := HBK.out.set 5 (.int .i64 (wrap64 (won + 1)))
          exact ⟨4, by omega, rfl, hn.alloc _, (HCK.out.setCell (.inr rfl) _).alloc _⟩
        case measure => simp [intOf]
    · have e0 : ((4 : Nat) : Int) = 4 := rfl
      rw [e0]
      clear e0
      have HBK : Hid (Blk wr kt #[p0, p1, p2, p3, .int .i64 legs, .int .i64 (cntK gw 3 4 won), .int .i64 (wrap64 (visits + 1)), .int .i64 (wrap64 (points + gs)), .int .i64 (wrap64 (dl + xl)), .int .i64 (wrap64 (dh + xh)), .int .i64 (wrap64 (tl + yl)), .int .i64 (wrap64 (th + yh)), .int .i64 (cntK b0 0 4 tons), .int .i64 (cntK b1 1 4 highs), .int .i64 (cntK b2 2 4 tops), .int .i64 best, q0, q1, q2, q3, q4, q5, q6, q7]) := Lib.hid hbk
      have HCK := Lib.hid hck
      have HKR : Hid (Blk wr (B + 1) #[.int .i64 gs, .bool gw]) := Lib.hid (HK5.out.chg hck HNE.out.2)
      have HCA : Hid (Chg (· = kt) w wr) := Lib.hid (((HX1.out.chg _).trans HC4.out).trans ((HX5.out.chg _).trans hck))
      clear hbk hck
      have g0 := HKR.out.cell 0 (v := .int .i64 gs) rfl
      have g1 := HKR.out.cell 1 (v := .bool gw) rfl
      have gl := HKR.out.lt
      cases gw
      · go_wp2
        have hRe : R = ⟨legs, cntK false 3 4 won, wrap64 (visits + 1), wrap64 (points + gs), ⟨wrap64 (dl + xl), wrap64 (dh + xh)⟩, ⟨wrap64 (tl + yl), wrap64 (th + yh)⟩, cntK b0 0 4 tons, cntK b1 1 4 highs, cntK b2 2 4 tops, best⟩ := by
          rw [← HRR.out]
          unfold sumS
          rw [← cntK_if HBS.out.1 (by decide) tons, ← cntK_if HBS.out.2.1 (by decide) highs, ← cntK_if (show decide (gs = 180) = b2 from HBS.out.2.2) (by decide) tops]
  
          rfl
        refine bodyPost_end (results_none rfl _ _ _) rfl ⟨rfl, ?_, HCA.out⟩
        rw [hRe]
        exact HBK.out
      · clear g0
        cases hm : decide (gs ≤ best)
        · have hmx : ¬ gs ≤ best := of_decide_eq_false hm
          have g0 : ∀ y : Lat (fun b _ => b = kt) wr, y.world.cell? ⟨B + 1, 0, none⟩ = some (.int .i64 gs) := fun y => (HKR.out.chg y.chg (by rintro ⟨_, e⟩; exact HNE.out.2 e)).cell 0 rfl
          go_upto_region 11 with fail
          refine wp_region_lat (by kernel_rfl) (fun b _ => b = kt) (fun k => (k == 5) || ((k == 12))) (RsIs [(5, .int .i64 best)]) (fun L _ W => Blk W kt (bif L 12 then #[p0, p1, p2, p3, .int .i64 legs, .int .i64 (cntK true 3 4 won), .int .i64 (wrap64 (visits + 1)), .int .i64 (wrap64 (points + gs)), .int .i64 (wrap64 (dl + xl)), .int .i64 (wrap64 (dh + xh)), .int .i64 (wrap64 (tl + yl)), .int .i64 (wrap64 (th + yh)), .int .i64 (cntK b0 0 4 tons), .int .i64 (cntK b1 1 4 highs), .int .i64 (cntK b2 2 4 tops), .int .i64 gs, q0, q1, q2, q3, q4, q5, q6, q7] else #[p0, p1, p2, p3, .int .i64 legs, .int .i64 (cntK true 3 4 won), .int .i64 (wrap64 (visits + 1)), .int .i64 (wrap64 (points + gs)), .int .i64 (wrap64 (dl + xl)), .int .i64 (wrap64 (dh + xh)), .int .i64 (wrap64 (tl + yl)), .int .i64 (wrap64 (th + yh)), .int .i64 (cntK b0 0 4 tons), .int .i64 (cntK b1 1 4 highs), .int .i64 (cntK b2 2 4 tops), .int .i64 best, q0, q1, q2, q3, q4, q5, q6, q7])) (by kernel_rfl)
            (fun k hk => by
              simp only [Bool.or_eq_true, beq_iff_eq] at hk
              rcases hk with rfl | rfl <;> decide)
            (fun L L' u w' h hg => by first | (rw [h 12 (by rfl)]; exact hg) | exact hg) (fun L u a b h hx => h.ext hx) (rsW [(5, .int .i64 best)]) (fun k _ => rsW_ok _ k) (HBK.out.ext (Ext.refl wr).drew) ?_
          intro T hT hne2 u hu
          have e_5 : u 5 = .int .i64 best := hu 5 rfl
          refine lx_next 5 (by rfl) (by decide) ?_
          dsimp only [List.take, List.drop]
          repeat (go_big_quiet_step (fail))
          refine wpQuiet_nil ?_
          refine lx_loud (by rfl) (by kernel_rfl) ?_ (fun K hK => ?_)
          · intro L w4 hL hd hcl hC hs
            obtain ⟨y, rfl⟩ := hC
            have d12 := hcl.off hL 40 12 (by kernel_rfl)
            rw [d12] at hs
            have hs : Blk y.world kt #[p0, p1, p2, p3, .int .i64 legs, .int .i64 (cntK true 3 4 won), .int .i64 (wrap64 (visits + 1)), .int .i64 (wrap64 (points + gs)), .int .i64 (wrap64 (dl + xl)), .int .i64 (wrap64 (dh + xh)), .int .i64 (wrap64 (tl + yl)), .int .i64 (wrap64 (th + yh)), .int .i64 (cntK b0 0 4 tons), .int .i64 (cntK b1 1 4 highs), .int .i64 (cntK b2 2 4 tops), .int .i64 best, q0, q1, q2, q3, q4, q5, q6, q7] := hs
            have r0 := hs.cell 15 (v := .int .i64 best) rfl
            have rl := hs.lt
            have HS := Lib.hid hs
            have D12 := Lib.hid d12
            have HLL := Lib.hid hL
            clear hs hd hcl hL d12
            go_wp2
            exact ⟨rfl, ⟨y, rfl⟩, by first | (rw [show upd L 5 12 = L 12 from rfl, D12.out]; exact HS.out) | exact HS.out⟩
          rw [e_5]
          go_simp
          with_reducible refine hK _ ?_
          clear hK K
          refine lx_next 6 (by rfl) (by decide) ?_
          dsimp only [List.take, List.drop]
          repeat (go_big_quiet_step (fail))
          refine wpQuiet_nil ?_
          refine lx_loud (by rfl) (by kernel_rfl) ?_ (fun K hK => ?_)
          · intro L w4 hL hd hcl hC hs
            obtain ⟨y, rfl⟩ := hC
            rw [hL] at hs
            have hs : Blk y.world kt #[p0, p1, p2, p3, .int .i64 legs, .int .i64 (cntK true 3 4 won), .int .i64 (wrap64 (visits + 1)), .int .i64 (wrap64 (points + gs)), .int .i64 (wrap64 (dl + xl)), .int .i64 (wrap64 (dh + xh)), .int .i64 (wrap64 (tl + yl)), .int .i64 (wrap64 (th + yh)), .int .i64 (cntK b0 0 4 tons), .int .i64 (cntK b1 1 4 highs), .int .i64 (cntK b2 2 4 tops), .int .i64 best, q0, q1, q2, q3, q4, q5, q6, q7] := hs
            have r0 := hs.cell 15 (v := .int .i64 best) rfl
            have rf0 := hs.frozen 15
            have rl := hs.lt
            have HS := Lib.hid hs
            have HLL := Lib.hid hL
            clear hs hd hcl hL
            go_wp2
            have hb0 : Blk _ kt #[p0, p1, p2, p3, .int .i64 legs, .int .i64 (cntK true 3 4 won), .int .i64 (wrap64 (visits + 1)), .int .i64 (wrap64 (points + gs)), .int .i64 (wrap64 (dl + xl)), .int .i64 (wrap64 (dh + xh)), .int .i64 (wrap64 (tl + yl)), .int .i64 (wrap64 (th + yh)), .int .i64 (cntK b0 0 4 tons), .int .i64 (cntK b1 1 4 highs), .int .i64 (cntK b2 2 4 tops), .int .i64 gs, q0, q1, q2, q3, q4, q5, q6, q7] := HS.out.set 15 (.int .i64 gs)
            exact ⟨trivial, ⟨y.chgd ((Chg.refl (· = kt) y.world).setCell (.inr rfl) (.int .i64 gs)) (fun b hb => .inr fun _ => hb), rfl⟩, by first | (rw [show upd L 12 12 = true from rfl]; exact hb0) | exact hb0⟩
          go_simp
          with_reducible refine hK _ ?_
          clear hK K
          refine lx_nil ?_
          intro y hs
          have HTE : Hid (Blk y.world kt #[p0, p1, p2, p3, .int .i64 legs, .int .i64 (cntK true 3 4 won), .int .i64 (wrap64 (visits + 1)), .int .i64 (wrap64 (points + gs)), .int .i64 (wrap64 (dl + xl)), .int .i64 (wrap64 (dh + xh)), .int .i64 (wrap64 (tl + yl)), .int .i64 (wrap64 (th + yh)), .int .i64 (cntK b0 0 4 tons), .int .i64 (cntK b1 1 4 highs), .int .i64 (cntK b2 2 4 tops), .int .i64 gs, q0, q1, q2, q3, q4, q5, q6, q7]) := Lib.hid hs
          have HCwe : Hid (Chg (· = kt) wr y.world) := Lib.hid (y.chg.mono (by rintro q - ⟨_, e⟩; exact e))
          clear hs hu hT hne2 e_5 g0 g1 gl
          generalize y.world = we at *
          clear y
          go_wp2
          have hRe : R = ⟨legs, cntK true 3 4 won, wrap64 (visits + 1), wrap64 (points + gs), ⟨wrap64 (dl + xl), wrap64 (dh + xh)⟩, ⟨wrap64 (tl + yl), wrap64 (th + yh)⟩, cntK b0 0 4 tons, cntK b1 1 4 highs, cntK b2 2 4 tops, gs⟩ := by
            rw [← HRR.out]
            unfold sumS
            rw [← cntK_if HBS.out.1 (by decide) tons, ← cntK_if HBS.out.2.1 (by decide) highs, ← cntK_if (show decide (gs = 180) = b2 from HBS.out.2.2) (by decide) tops]
            rw [show max best gs = gs by omega]
            rfl
          refine bodyPost_end (results_none rfl _ _ _) rfl ⟨rfl, ?_, HCA.out.trans HCwe.out⟩
          rw [hRe]
          exact HTE.out
        · have hmx : gs ≤ best := of_decide_eq_true hm
          have g0 : ∀ y : Lat (fun b _ => b = kt) wr, y.world.cell? ⟨B + 1, 0, none⟩ = some (.int .i64 gs) := fun y => (HKR.out.chg y.chg (by rintro ⟨_, e⟩; exact HNE.out.2 e)).cell 0 rfl
          go_upto_region 11 with fail
          refine wp_region_lat (by kernel_rfl) (fun b _ => b = kt) (fun k => (k == 5) || ((k == 12))) (RsIs [(5, .int .i64 best)]) (fun L _ W => Blk W kt (bif L 12 then #[p0, p1, p2, p3, .int .i64 legs, .int .i64 (cntK true 3 4 won), .int .i64 (wrap64 (visits + 1)), .int .i64 (wrap64 (points + gs)), .int .i64 (wrap64 (dl + xl)), .int .i64 (wrap64 (dh + xh)), .int .i64 (wrap64 (tl + yl)), .int .i64 (wrap64 (th + yh)), .int .i64 (cntK b0 0 4 tons), .int .i64 (cntK b1 1 4 highs), .int .i64 (cntK b2 2 4 tops), .int .i64 best, q0, q1, q2, q3, q4, q5, q6, q7] else #[p0, p1, p2, p3, .int .i64 legs, .int .i64 (cntK true 3 4 won), .int .i64 (wrap64 (visits + 1)), .int .i64 (wrap64 (points + gs)), .int .i64 (wrap64 (dl + xl)), .int .i64 (wrap64 (dh + xh)), .int .i64 (wrap64 (tl + yl)), .int .i64 (wrap64 (th + yh)), .int .i64 (cntK b0 0 4 tons), .int .i64 (cntK b1 1 4 highs), .int .i64 (cntK b2 2 4 tops), .int .i64 best, q0, q1, q2, q3, q4, q5, q6, q7])) (by kernel_rfl)
            (fun k hk => by
              simp only [Bool.or_eq_true, beq_iff_eq] at hk
              rcases hk with rfl | rfl <;> decide)
            (fun L L' u w' h hg => by first | (rw [h 12 (by rfl)]; exact hg) | exact hg) (fun L u a b h hx => h.ext hx) (rsW [(5, .int .i64 best)]) (fun k _ => rsW_ok _ k) (HBK.out.ext (Ext.refl wr).drew) ?_
          intro T hT hne2 u hu
          have e_5 : u 5 = .int .i64 best := hu 5 rfl
          refine lx_next 5 (by rfl) (by decide) ?_
          dsimp only [List.take, List.drop]
          repeat (go_big_quiet_step (fail))
          refine wpQuiet_nil ?_
          refine lx_loud (by rfl) (by kernel_rfl) ?_ (fun K hK => ?_)
          · intro L w4 hL hd hcl hC hs
            obtain ⟨y, rfl⟩ := hC
            have d12 := hcl.off hL 40 12 (by kernel_rfl)
            rw [d12] at hs
            have hs : Blk y.world kt #[p0, p1, p2, p3, .int .i64 legs, .int .i64 (cntK true 3 4 won), .int .i64 (wrap64 (visits + 1)), .int .i64 (wrap64 (points + gs)), .int .i64 (wrap64 (dl + xl)), .int .i64 (wrap64 (dh + xh)), .int .i64 (wrap64 (tl + yl)), .int .i64 (wrap64 (th + yh)), .int .i64 (cntK b0 0 4 tons), .int .i64 (cntK b1 1 4 highs), .int .i64 (cntK b2 2 4 tops), .int .i64 best, q0, q1, q2, q3, q4, q5, q6, q7] := hs
            have r0 := hs.cell 15 (v := .int .i64 best) rfl
            have rl := hs.lt
            have HS := Lib.hid hs
            have D12 := Lib.hid d12
            have HLL := Lib.hid hL
            clear hs hd hcl hL d12
            go_wp2
            exact ⟨rfl, ⟨y, rfl⟩, by first | (rw [show upd L 5 12 = L 12 from rfl, D12.out]; exact HS.out) | exact HS.out⟩
          rw [e_5]
          go_simp
          with_reducible refine hK _ ?_
          clear hK K
          refine lx_next 6 (by rfl) (by decide) ?_
          dsimp only [List.take, List.drop]
          repeat (go_big_quiet_step (fail))
          refine wpQuiet_nil ?_
          refine lx_loud (by rfl) (by kernel_rfl) ?_ (fun K hK => ?_)
          · intro L w4 hL hd hcl hC hs
            obtain ⟨y, rfl⟩ := hC
            rw [hL] at hs
            have hs : Blk y.world kt #[p0, p1, p2, p3, .int .i64 legs, .int .i64 (cntK true 3 4 won), .int .i64 (wrap64 (visits + 1)), .int .i64 (wrap64 (points + gs)), .int .i64 (wrap64 (dl + xl)), .int .i64 (wrap64 (dh + xh)), .int .i64 (wrap64 (tl + yl)), .int .i64 (wrap64 (th + yh)), .int .i64 (cntK b0 0 4 tons), .int .i64 (cntK b1 1 4 highs), .int .i64 (cntK b2 2 4 tops), .int .i64 best, q0, q1, q2, q3, q4, q5, q6, q7] := hs
            have r0 := hs.cell 15 (v := .int .i64 best) rfl
            have rf0 := hs.frozen 15
            have rl := hs.lt
            have HS := Lib.hid hs
            have HLL := Lib.hid hL
            clear hs hd hcl hL
            go_wp2
            have hb0 : Blk _ kt #[p0, p1, p2, p3, .int .i64 legs, .int .i64 (cntK true 3 4 won), .int .i64 (wrap64 (visits + 1)), .int .i64 (wrap64 (points + gs)), .int .i64 (wrap64 (dl + xl)), .int .i64 (wrap64 (dh + xh)), .int .i64 (wrap64 (tl + yl)), .int .i64 (wrap64 (th + yh)), .int .i64 (cntK b0 0 4 tons), .int .i64 (cntK b1 1 4 highs), .int .i64 (cntK b2 2 4 tops), .int .i64 best, q0, q1, q2, q3, q4, q5, q6, q7] := HS.out.set 15 (.int .i64 best)
            exact ⟨trivial, ⟨y.chgd ((Chg.refl (· = kt) y.world).setCell (.inr rfl) (.int .i64 best)) (fun b hb => .inr fun _ => hb), rfl⟩, by first | (rw [show upd L 12 12 = true from rfl]; exact hb0) | exact hb0⟩
          go_simp
          with_reducible refine hK _ ?_
          clear hK K
          refine lx_nil ?_
          intro y hs
          have HTE : Hid (Blk y.world kt #[p0, p1, p2, p3, .int .i64 legs, .int .i64 (cntK true 3 4 won), .int .i64 (wrap64 (visits + 1)), .int .i64 (wrap64 (points + gs)), .int .i64 (wrap64 (dl + xl)), .int .i64 (wrap64 (dh + xh)), .int .i64 (wrap64 (tl + yl)), .int .i64 (wrap64 (th + yh)), .int .i64 (cntK b0 0 4 tons), .int .i64 (cntK b1 1 4 highs), .int .i64 (cntK b2 2 4 tops), .int .i64 best, q0, q1, q2, q3, q4, q5, q6, q7]) := Lib.hid hs
          have HCwe : Hid (Chg (· = kt) wr y.world) := Lib.hid (y.chg.mono (by rintro q - ⟨_, e⟩; exact e))
          clear hs hu hT hne2 e_5 g0 g1 gl
          generalize y.world = we at *
          clear y
          go_wp2
          have hRe : R = ⟨legs, cntK true 3 4 won, wrap64 (visits + 1), wrap64 (points + gs), ⟨wrap64 (dl + xl), wrap64 (dh + xh)⟩, ⟨wrap64 (tl + yl), wrap64 (th + yh)⟩, cntK b0 0 4 tons, cntK b1 1 4 highs, cntK b2 2 4 tops, best⟩ := by
            rw [← HRR.out]
            unfold sumS
            rw [← cntK_if HBS.out.1 (by decide) tons, ← cntK_if HBS.out.2.1 (by decide) highs, ← cntK_if (show decide (gs = 180) = b2 from HBS.out.2.2) (by decide) tops]
            rw [show max best gs = best by omega]
            rfl
          refine bodyPost_end (results_none rfl _ _ _) rfl ⟨rfl, ?_, HCA.out.trans HCwe.out⟩
          rw [hRe]
          exact HTE.out

end Go.Proofs.Ytmopadnkjlodnaa
namespace Go.Proofs.Ytmopadnkjlodnaa
open Go.RowKit Go.BigFrame
attribute [local go_sem] Oper.semAt_some Later.cell Later.frozen Lat.cell Lat.frozen NoX
/-- A leg that is told dart by dart. -/
structure Exa where
  t : Tot
  left : Int
  inn : Bool
  scores : List Int
  won : Bool
section
variable (start gin gout : Int) (beds : List Int)
def exaE (e : Exa) (vb : List Int) : Int := if e.won = true then 33 else chkS start gin gout beds e.inn e.left vb
def exaS (e : Exa) (vb : List Int) : Exa :=
  ⟨sumS e.t ⟨vb.length, vb.length, triA gin gout beds ⟨e.left, e.inn⟩ vb 0, triA gin gout beds ⟨e.left, e.inn⟩ vb 0, true⟩ ⟨(visS start gin gout e.inn e.left vb).1.score, (visS start gin gout e.inn e.left vb).1.won⟩,
    (visS start gin gout e.inn e.left vb).1.left, (visS start gin gout e.inn e.left vb).1.inn, e.scores ++ [(visS start gin gout e.inn e.left vb).1.score], (visS start gin gout e.inn e.left vb).1.won⟩
end
theorem chk_ok {start gin gout left : Int} {beds vb : List Int} {inn : Bool} (h : chkS start gin gout beds inn left vb = 0) : (visS start gin gout inn left vb).2 = 0 ∧ ∀ b ∈ vb, b = 0 ∨ b ∈ beds := by
  unfold chkS at h
  cases hf : (List.range vb.length).findSome? (chkE start gin gout beds inn left vb) with
  | some e =>
    rw [hf] at h
    simp only at h
    subst h
    obtain ⟨i, -, hi⟩ := List.exists_of_findSome?_eq_some hf
    unfold chkE at hi
    split at hi
    · simp at hi
    · split at hi <;> simp at hi
  | none =>
    rw [hf] at h
    refine ⟨h, fun b hb => ?_⟩
    obtain ⟨i, hi, rfl⟩ := List.mem_iff_getElem.1 hb
    have := List.findSome?_eq_none_iff.1 hf i (by simpa using hi)
    unfold chkE at this
    split at this
    · cases this
    · split at this
      · cases this
      · rename_i h2
        have hg : vb.getD i 0 = vb[i] := by simp [hi]
        rw [hg] at h2
        by_cases h0 : vb[i] = 0
        · exact .inl h0
        · right
          have h3 : beds.any (vb[i] == ·) = true := by
            cases hc : beds.any (vb[i] == ·)
            · rw [hc] at h2
              simp [h0] at h2
            · rfl
          obtain ⟨x, hx, he⟩ := List.any_eq_true.1 h3
          have : vb[i] = x := by simpa using he
          rw [this]
          exact hx
theorem visS_left {start gin gout left : Int} {vb : List Int} {inn : Bool} (h : (visS start gin gout inn left vb).2 = 0) : 0 ≤ left ∧ left ≤ 2000 := by
  unfold visS at h
  split at h
  · simp at h
  · rename_i h1
    split at h
    · simp at h
    · rename_i h2
      have h3 := cntB_start (start := start) (gin := gin) (gout := gout) (by simpa using h1)
      have h4 := ins_one.1 (by simpa using h2)
      have h5 : 0 ≤ leastS gout := by unfold leastS; split <;> decide
      omega
structure ThrR (sv : Value) (n k : Nat) (v : Value) : Prop where
  r6 : k = 6 → v = sv
  r9 : k = 9 → ∃ b, v = .slice (some ⟨b, 0, none⟩) 1 1
  r10 : k = 10 → ∃ a c, v = .slice a (n + 1) c
def thrU (sv : Value) (n k : Nat) : Value := if k = 6 then sv else if k = 9 then .slice (some ⟨0, 0, none⟩) 1 1 else .slice none (n + 1) 0
theorem thrU_R (sv : Value) (n k : Nat) : ThrR sv n k (thrU sv n k) := ⟨by rintro rfl; rfl, by rintro rfl; exact ⟨0, rfl⟩, by rintro rfl; exact ⟨none, 0, rfl⟩⟩
def thrN (k : Nat) : Bool := k == 6 || (k == 9 || (k == 10 || (k == 16 || k == 20)))
/-- While a score is put into the leg. -/
structure ThrG (kx lo base : Nat) (sv : Value) (sc : Int) (scores : List Int) (c0 : Array Value) (c1 c2 : Value → Array Value) (L : Nat → Bool) (u : Nat → Value) (W : World) : Prop where
  blk : Blk W kx (bif L 20 then c2 (u 10) else bif L 16 then c1 (u 10) else c0)
  b9 : L 9 = true → L 10 = false → ∃ k, u 9 = .slice (some ⟨k, 0, none⟩) 1 1 ∧ base ≤ k ∧ Blk W k #[.int .i64 sc]
  o0 : L 10 = false → OwnI W lo sv scores
  o1 : L 10 = true → OwnI W lo (u 10) (scores ++ [sc]) ∧ ∀ k, (u 10).ownBlock = some k → k ≠ kx ∧ (sv.ownBlock = some k ∨ base ≤ k)
theorem ThrG.ext {kx lo base : Nat} {sv : Value} {sc : Int} {scores : List Int} {c0 : Array Value} {c1 c2 : Value → Array Value} {L : Nat → Bool} {u : Nat → Value} {W W' : World} (h : ThrG kx lo base sv sc scores c0 c1 c2 L u W) (hx : Ext W W') : ThrG kx lo base sv sc scores c0 c1 c2 L u W' :=
  ⟨h.blk.ext hx, fun e1 e2 => let ⟨k, h1, h2, h3⟩ := h.b9 e1 e2; ⟨k, h1, h2, h3.ext hx⟩, fun e => (h.o0 e).ext hx, fun e => ⟨(h.o1 e).1.ext hx, (h.o1 e).2⟩⟩
theorem ThrG.congr {kx lo base : Nat} {sv : Value} {sc : Int} {scores : List Int} {c0 : Array Value} {c1 c2 : Value → Array Value} {L L' : Nat → Bool} {u u' : Nat → Value} {W : World} (h : ThrG kx lo base sv sc scores c0 c1 c2 L u W) (e9 : L' 9 = L 9) (e10 : L' 10 = L 10) (e16 : L' 16 = L 16) (e20 : L' 20 = L 20) (f9 : u' 9 = u 9) (f10 : u' 10 = u 10) : ThrG kx lo base sv sc scores c0 c1 c2 L' u' W :=
  ⟨by rw [e20, e16, f10]; exact h.blk, fun e1 e2 => let ⟨k, h1, h2⟩ := h.b9 (e9 ▸ e1) (e10 ▸ e2); ⟨k, f9.trans h1, h2⟩, fun e => h.o0 (e10 ▸ e), fun e => by rw [f10]; exact h.o1 (e10 ▸ e)⟩
set_option maxRecDepth 100000 in
set_option maxHeartbeats 8000000 in
theorem mean_throw (start gin gout : Int) (beds : List Int) (ba : Option Addr) (bc : Nat) (e : Exa) (la : Option Addr) (lc : Nat) (sv : Value) (kx lo : Nat) (vb : List Int) (va : Option Addr) (vc : Nat) (w : World)
    (hx : Blk w kx (exC start gin gout beds ba bc e.t e.left e.inn la lc sv e.won)) (hR : CellsAt w .i64 ba beds) (hV : CellsAt w .i64 va vb) (hB : bedsB beds = true) (hl : beds.length ≤ 100) (hn : vb.length ≤ 1000) (hvc : vb.length ≤ vc ∧ vc ≤ maxLen) (hvi : ∀ b ∈ vb, I64 b)
    (hs : OwnI w lo sv e.scores) (hsl : e.scores.length ≤ 1000) (hlo : lo ≤ w.heap.size) (hne : ∀ k, sv.ownBlock = some k → k ≠ kx) :
    Calls Try.prog 66 #[.pointer (some ⟨kx, 0, none⟩), .slice va vb.length vc] w fun r w' => r = .returned (.int .i64 (exaE start gin gout beds e vb)) ∧ (exaE start gin gout beds e vb ≠ 0 → Ext w w') ∧
      (exaE start gin gout beds e vb = 0 → ∃ sv', Blk w' kx (exC start gin gout beds ba bc (exaS start gin gout beds e vb).t (exaS start gin gout beds e vb).left (exaS start gin gout beds e vb).inn la lc sv' (exaS start gin gout beds e vb).won) ∧ OwnI w' lo sv' (exaS start gin gout beds e vb).scores ∧ (∀ k, sv'.ownBlock = some k → k ≠ kx ∧ (sv.ownBlock = some k ∨ w.heap.size ≤ k)) ∧ Chg (fun k => k = kx ∨ sv.ownBlock = some k) w w') := by
  obtain ⟨xa, xc, rfl⟩ := own_shape hs
  obtain ⟨RE, hRE⟩ : ∃ y, exaE start gin gout beds e vb = y := ⟨_, rfl⟩
  obtain ⟨RS, hRS⟩ : ∃ y, exaS start gin gout beds e vb = y := ⟨_, rfl⟩
  rw [hRE, hRS]
  have HRE := Lib.hid hRE
  have HRS := Lib.hid hRS
  have HX := Lib.hid hx
  unfold exC at HX
  have HR := Lib.hid hR
  have HV := Lib.hid hV
  have HB := Lib.hid hB
  have HLB := Lib.hid hl
  have HVC := Lib.hid hvc
  have HVI := Lib.hid hvi
  have HS := Lib.hid hs
  have HSL := Lib.hid hsl
  have HLO := Lib.hid hlo
  have HNE := Lib.hid hne
  have HVN := Lib.hid hn
  have hck := mean_check start gin gout beds ba bc e.t e.left e.inn la lc (.slice xa e.scores.length xc) e.won kx vb va vc w hx hR hV hl hn hvc hvi
  clear hRE hRS hx hR hV hB hl hvc hvi hs hsl hlo hne
  have q23 := HX.out.cell 23 (v := .bool e.won) rfl
  have ql := HX.out.lt
  go_enter Try.func66, Try.ntmps66
  cases hw : e.won
  case true =>
    rw [hw] at q23
    have HE : Hid (RE = 33) := Lib.hid (by rw [← HRE.out]; unfold exaE; rw [if_pos hw])
    go_wp2
    refine bodyPost_ret (v := .int .i64 33) (by simp [results, Try.results66, go_sem]) rfl ⟨by rw [HE.out], fun _ => Ext.refl _, fun h => by rw [HE.out] at h; cases h⟩
  case false =>
  rw [hw] at q23
  have HWN := Lib.hid hw
  have HE : Hid (RE = chkS start gin gout beds e.inn e.left vb) := Lib.hid (by rw [← HRE.out]; unfold exaE; rw [hw]; rfl)
  clear hw
  obtain ⟨er, her⟩ : ∃ y, chkS start gin gout beds e.inn e.left vb = y := ⟨_, rfl⟩
  rw [her] at hck HE
  have HER := Lib.hid her
  have HCK := Lib.hid hck
  clear her hck
  go_wp2_with fail
  refine HCK.out.mono ?_
  rintro r w2 ⟨rfl, hx2⟩
  have HX2 := Lib.hid hx2
  have HK2 := Lib.hid (HX.out.ext hx2)
  clear hx2 q23 ql HCK
  by_cases he0 : er = 0
  · subst he0
    obtain ⟨hv0, hvm⟩ := chk_ok HER.out
    have hlf := visS_left hv0
    have HVM := Lib.hid hvm
    have HLF := Lib.hid hlf
    obtain ⟨⟨TH, er2⟩, hT⟩ : ∃ y, visS start gin gout e.inn e.left vb = y := ⟨_, rfl⟩
    have hvis := fun W (hxw : Ext w W) => leg_Visit start gin gout e.inn e.left vb va vc W (HV.out.ext hxw) HVI.out (by have := HVN.out; omega) _ hT
    unfold Thr.agg at hvis
    simp only at hvis
    have HVIS := Lib.hid hvis
    obtain ⟨tri, htri⟩ : ∃ y, triA gin gout beds ⟨e.left, e.inn⟩ vb 0 = y := ⟨_, rfl⟩
    have HRS2 : Hid (RS = ⟨sumS e.t ⟨vb.length, vb.length, tri, tri, true⟩ ⟨TH.score, TH.won⟩, TH.left, TH.inn, e.scores ++ [TH.score], TH.won⟩) := Lib.hid (by rw [← HRS.out]; unfold exaS; rw [hT, htri])
    have htr := fun W (hxw : Ext w W) => mean_tries start gin gout beds ba bc e.t e.left e.inn la lc (.slice xa e.scores.length xc) e.won kx vb va vc W (HX.out.ext hxw) (fun i hi => let ⟨b, o, e1, h⟩ := HR.out i hi; ⟨b, o, e1, hxw.cell h⟩) (HV.out.ext hxw) HB.out HLB.out HVN.out HVM.out HLF.out
    rw [htri] at htr
    have HTR := Lib.hid htr
    have htb : 0 ≤ tri ∧ tri ≤ 1000 := by
      have h := triA_bounds gin gout beds vb ⟨e.left, e.inn⟩ 0
      have h2 := HVN.out
      rw [htri] at h
      omega
    clear hvis hT htri htr hv0 hvm hlf htb
    go_upto_region 6 with fail
    have y0 : ∀ y : Lat NoX w2, y.world.cell? ⟨kx, 0, none⟩ = some (.int .i64 start) := fun y => (HK2.out.ext (Lat.ext0 y)).cell 0 rfl
    have y1 : ∀ y : Lat NoX w2, y.world.cell? ⟨kx, 1, none⟩ = some (.int .i64 gin) := fun y => (HK2.out.ext (Lat.ext0 y)).cell 1 rfl
    have y2 : ∀ y : Lat NoX w2, y.world.cell? ⟨kx, 2, none⟩ = some (.int .i64 gout) := fun y => (HK2.out.ext (Lat.ext0 y)).cell 2 rfl
    have y16 : ∀ y : Lat NoX w2, y.world.cell? ⟨kx, 16, none⟩ = some (.int .i64 e.left) := fun y => (HK2.out.ext (Lat.ext0 y)).cell 16 rfl
    have y17 : ∀ y : Lat NoX w2, y.world.cell? ⟨kx, 17, none⟩ = some (.bool e.inn) := fun y => (HK2.out.ext (Lat.ext0 y)).cell 17 rfl
    have yl := HK2.out.lt
    refine wp_region_lat (by kernel_rfl) NoX (boxN 20 21) (BoxR 20) (BoxG 20 21 #[.int .i64 0, .int .i64 0, .int .i64 0, .bool false, .bool false, .bool false] #[.int .i64 TH.left, .int .i64 TH.score, .int .i64 TH.darts, .bool TH.inn, .bool TH.bust, .bool TH.won] w2.heap.size) (by kernel_rfl)
      (fun k hk => by
        simp only [boxN, Bool.or_eq_true, beq_iff_eq] at hk
        rcases hk with rfl | rfl <;> decide)
      (fun L L' u w' h hg => hg.congr (h 20 rfl) (h 21 rfl)) (fun L u a b h hx => h.ext hx) (fun _ => .pointer (some ⟨0, 0, none⟩)) (fun k _ => ⟨0, fun _ => rfl⟩) ⟨fun h => (by cases h)⟩ ?_
    intro T hT hne2 u hu
    obtain ⟨k6, e_box⟩ := hu 20 rfl
    replace e_box := e_box rfl
    refine lx_next 20 (by rfl) (by decide) ?_
    dsimp only [List.take, List.drop]
    repeat (go_big_quiet_step (with_reducible refine Calls.lat hT (HVIS.out _ (HX2.out.trans (Lat.ext0 _)))))
    refine wpQuiet_nil ?_
    refine lx_loud (by rfl) (by kernel_rfl) ?_ (fun K hK => ?_)
    · intro L w4 hL hd hcl hC hs
      obtain ⟨y, rfl⟩ := hC
      have h6 := hcl.off hL 40 21 (by kernel_rfl)
      have hy := y.size
      clear hs hd hcl
      go_wp2
      exact ⟨⟨_, fun _ => rfl⟩, ⟨y.ext ((Ext.refl _).alloc _), rfl⟩, ⟨fun _ => ⟨_, rfl, hy, by rw [show upd L 20 21 = L 21 from rfl, h6]; exact Blk.new _ _ _⟩⟩⟩
    rw [e_box]
    go_simp
    with_reducible refine hK _ ?_
    clear hK K
    refine lx_loud (by rfl) (by kernel_rfl) ?_ (fun K hK => ?_)
    · intro L w4 hL hd hcl hC hs
      obtain ⟨y, rfl⟩ := hC
      obtain ⟨k, ek, hk, hbk⟩ := hs.at_ (hd 20 (by kernel_rfl))
      obtain rfl : k6 = k := by have h := e_box.symm.trans ek; cases h; rfl
      rw [hL] at hbk
      have hbk : Blk y.world k6 #[.int .i64 0, .int .i64 0, .int .i64 0, .bool false, .bool false, .bool false] := hbk
      have r0 := hbk.cell 0 (v := .int .i64 0) rfl
      have rf0 := hbk.frozen 0
      have r1 := hbk.cell 1 (v := .int .i64 0) rfl
      have rf1 := hbk.frozen 1
      have r2 := hbk.cell 2 (v := .int .i64 0) rfl
      have rf2 := hbk.frozen 2
      have r3 := hbk.cell 3 (v := .bool false) rfl
      have rf3 := hbk.frozen 3
      have r4 := hbk.cell 4 (v := .bool false) rfl
      have rf4 := hbk.frozen 4
      have r5 := hbk.cell 5 (v := .bool false) rfl
      have rf5 := hbk.frozen 5
      have rl := hbk.lt
      have HBK := Lib.hid hbk
      have HEK := Lib.hid ek
      have HHK := Lib.hid hk
      clear hs hd hcl hbk ek hk
      go_wp2
      refine ⟨⟨0, fun h => absurd h (by decide)⟩, ⟨y.chgd (six_chg (· = k6) y.world (b := k6) rfl _ _ _ _ _ _) (fun b hb => .inl (by rw [show b = k6 from hb]; exact HHK.out)), rfl⟩, ⟨fun _ => ⟨k6, HEK.out, HHK.out, six_set HBK.out _ _ _ _ _ _⟩⟩⟩
    go_simp
    with_reducible refine hK _ ?_
    clear hK K
    refine lx_next 1 (by rfl) (by decide) ?_
    dsimp only [List.take, List.drop]
    repeat (go_big_quiet_step (with_reducible refine Calls.lat hT (HVIS.out _ (HX2.out.trans (Lat.ext0 _)))))
    refine wpQuiet_nil ?_
    refine lx_nil ?_
    intro y hs
    obtain ⟨kk, ek, hk, hbk⟩ := hs.at_ rfl
    obtain rfl : k6 = kk := by have h := e_box.symm.trans ek; cases h; rfl
    have K6 : Hid (Blk y.world k6 #[.int .i64 TH.left, .int .i64 TH.score, .int .i64 TH.darts, .bool TH.inn, .bool TH.bust, .bool TH.won]) := Lib.hid hbk
    have Hk6 : Hid (w2.heap.size ≤ k6) := Lib.hid hk
    have HXw3 := Lib.hid (Lat.ext0 y)
    clear hs hbk hk ek e_box hu hT hne2 y0 y1 y2 y16 y17 yl
    generalize y.world = w3 at *
    clear y
    have HX3 := Lib.hid (HX2.out.trans HXw3.out)
    have HK3 := Lib.hid (HK2.out.ext HXw3.out)
    go_wp2_with fail
    refine (HTR.out w3 HX3.out).mono ?_
    rintro r w4 ⟨rfl, hx4⟩
    have HX4 := Lib.hid (HX3.out.trans hx4)
    have HK4 := Lib.hid (HK3.out.ext hx4)
    have K64 := Lib.hid (K6.out.ext hx4)
    have HN6 : Hid (¬ k6 = kx ∧ ∀ k, (Value.slice xa e.scores.length xc).ownBlock = some k → ¬ k6 = k) := Lib.hid ⟨by have h1 := Hk6.out; have h2 := HK2.out.lt; omega, fun k hk e1 => by
      have h1 := Hk6.out
      have h2 := (World.ownsRow.lt HS.out k hk).2
      have h3 := HX2.out.size
      omega⟩
    clear hx4
    go_upto_region 8 with fail
    -- the total
    have HOS4 := Lib.hid (HS.out.ext HX4.out)
    have y1 : ∀ y : Lat (fun b _ => b = kx) w4, y.world.cell? ⟨k6, 1, none⟩ = some (.int .i64 TH.score) := fun y => (K64.out.chg y.chg (by rintro ⟨_, e1⟩; exact HN6.out.1 e1)).cell 1 rfl
    have y5 : ∀ y : Lat (fun b _ => b = kx) w4, y.world.cell? ⟨k6, 5, none⟩ = some (.bool TH.won) := fun y => (K64.out.chg y.chg (by rintro ⟨_, e1⟩; exact HN6.out.1 e1)).cell 5 rfl
    have yl := K64.out.lt
    have yl2 := HK4.out.lt
    refine wp_region_lat (by kernel_rfl) (fun b _ => b = kx) (fun k => k == 15) (RsIs [(15, .tuple #[])]) (fun L _ W => Blk W kx (bif L 15 then #[.int .i64 start, .int .i64 gin, .int .i64 gout, .slice ba beds.length bc, .int .i64 (sumS e.t ⟨vb.length, vb.length, tri, tri, true⟩ ⟨TH.score, TH.won⟩).legs, .int .i64 (sumS e.t ⟨vb.length, vb.length, tri, tri, true⟩ ⟨TH.score, TH.won⟩).won, .int .i64 (sumS e.t ⟨vb.length, vb.length, tri, tri, true⟩ ⟨TH.score, TH.won⟩).visits, .int .i64 (sumS e.t ⟨vb.length, vb.length, tri, tri, true⟩ ⟨TH.score, TH.won⟩).points, .int .i64 (sumS e.t ⟨vb.length, vb.length, tri, tri, true⟩ ⟨TH.score, TH.won⟩).darts.lo, .int .i64 (sumS e.t ⟨vb.length, vb.length, tri, tri, true⟩ ⟨TH.score, TH.won⟩).darts.hi, .int .i64 (sumS e.t ⟨vb.length, vb.length, tri, tri, true⟩ ⟨TH.score, TH.won⟩).tried.lo, .int .i64 (sumS e.t ⟨vb.length, vb.length, tri, tri, true⟩ ⟨TH.score, TH.won⟩).tried.hi, .int .i64 (sumS e.t ⟨vb.length, vb.length, tri, tri, true⟩ ⟨TH.score, TH.won⟩).tons, .int .i64 (sumS e.t ⟨vb.length, vb.length, tri, tri, true⟩ ⟨TH.score, TH.won⟩).highs, .int .i64 (sumS e.t ⟨vb.length, vb.length, tri, tri, true⟩ ⟨TH.score, TH.won⟩).tops, .int .i64 (sumS e.t ⟨vb.length, vb.length, tri, tri, true⟩ ⟨TH.score, TH.won⟩).best, .int .i64 e.left, .bool e.inn, .int .i64 start, .int .i64 gin, .int .i64 gout, .slice la beds.length lc, .slice xa e.scores.length xc, .bool e.won] else #[.int .i64 start, .int .i64 gin, .int .i64 gout, .slice ba beds.length bc, .int .i64 e.t.legs, .int .i64 e.t.won, .int .i64 e.t.visits, .int .i64 e.t.points, .int .i64 e.t.darts.lo, .int .i64 e.t.darts.hi, .int .i64 e.t.tried.lo, .int .i64 e.t.tried.hi, .int .i64 e.t.tons, .int .i64 e.t.highs, .int .i64 e.t.tops, .int .i64 e.t.best, .int .i64 e.left, .bool e.inn, .int .i64 start, .int .i64 gin, .int .i64 gout, .slice la beds.length lc, .slice xa e.scores.length xc, .bool e.won])) (by kernel_rfl)
      (fun k hk => by
        have : k = 15 := by simpa using hk
        subst this
        decide)
      (fun L L' u w' h hg => by rw [h 15 (by rfl)]; exact hg) (fun L u a b h hx => h.ext hx) (rsW [(15, .tuple #[])]) (fun k _ => rsW_ok _ k) (HK4.out.ext (Ext.refl w4).drew) ?_
    intro T hT hne2 u hu
    have e15 : u 15 = .tuple #[] := hu 15 rfl
    refine lx_next 15 (by rfl) (by decide) ?_
    dsimp only [List.take, List.drop]
    repeat (go_big_quiet_step (fail))
    refine wpQuiet_nil ?_
    refine lx_loud (by rfl) (by kernel_rfl) ?_ (fun K hK => ?_)
    · intro L w5 hL hd hcl hC hs
      obtain ⟨y, rfl⟩ := hC
      rw [hL] at hs
      have HSS : Hid (Blk y.world kx #[.int .i64 start, .int .i64 gin, .int .i64 gout, .slice ba beds.length bc, .int .i64 e.t.legs, .int .i64 e.t.won, .int .i64 e.t.visits, .int .i64 e.t.points, .int .i64 e.t.darts.lo, .int .i64 e.t.darts.hi, .int .i64 e.t.tried.lo, .int .i64 e.t.tried.hi, .int .i64 e.t.tons, .int .i64 e.t.highs, .int .i64 e.t.tops, .int .i64 e.t.best, .int .i64 e.left, .bool e.inn, .int .i64 start, .int .i64 gin, .int .i64 gout, .slice la beds.length lc, .slice xa e.scores.length xc, .bool e.won]) := Lib.hid hs
      clear hs hL hd hcl
      go_wp2_with fail
      refine (mean_tadd4 kx (.int .i64 start) (.int .i64 gin) (.int .i64 gout) (.slice ba beds.length bc) (.int .i64 e.left) (.bool e.inn) (.int .i64 start) (.int .i64 gin) (.int .i64 gout) (.slice la beds.length lc) (.slice xa e.scores.length xc) (.bool e.won) e.t ⟨vb.length, vb.length, tri, tri, true⟩ ⟨TH.score, TH.won⟩ y.world HSS.out).mono ?_
      rintro r w5 ⟨rfl, hb5, hc5⟩
      go_wp2
      exact ⟨rfl, ⟨y.chgd hc5 (fun b hb => .inr fun _ => hb), rfl⟩, hb5⟩
    rw [e15]
    go_simp
    with_reducible refine hK _ ?_
    clear hK K
    refine lx_nil ?_
    intro y hs
    obtain ⟨tn, htn⟩ : ∃ y, sumS e.t ⟨vb.length, vb.length, tri, tri, true⟩ ⟨TH.score, TH.won⟩ = y := ⟨_, rfl⟩
    have HK5 : Hid (Blk y.world kx #[.int .i64 start, .int .i64 gin, .int .i64 gout, .slice ba beds.length bc, .int .i64 tn.legs, .int .i64 tn.won, .int .i64 tn.visits, .int .i64 tn.points, .int .i64 tn.darts.lo, .int .i64 tn.darts.hi, .int .i64 tn.tried.lo, .int .i64 tn.tried.hi, .int .i64 tn.tons, .int .i64 tn.highs, .int .i64 tn.tops, .int .i64 tn.best, .int .i64 e.left, .bool e.inn, .int .i64 start, .int .i64 gin, .int .i64 gout, .slice la beds.length lc, .slice xa e.scores.length xc, .bool e.won]) := Lib.hid (by rw [← htn]; exact hs)
    have HRS3 : Hid (RS = ⟨tn, TH.left, TH.inn, e.scores ++ [TH.score], TH.won⟩) := Lib.hid (by rw [HRS2.out, htn])
    have HC5 : Hid (Chg (· = kx) w4 y.world) := Lib.hid (y.chg.mono (by rintro q - ⟨_, e⟩; exact e))
    clear hs hu hT hne2 e15 y1 y5 yl yl2 htn
    generalize y.world = w5 at *
    clear y
    have K65 := Lib.hid (K64.out.chg HC5.out HN6.out.1)
    have HS5 := Lib.hid (HOS4.out.chg HC5.out (fun k hk e1 => HNE.out k hk e1))
    have hkxl := HK5.out.lt
    obtain ⟨SV, hSV⟩ : ∃ y, Value.slice xa e.scores.length xc = y := ⟨_, rfl⟩
    have hne5 : ∀ k, (Value.slice xa e.scores.length xc).ownBlock = some k → k ≠ kx := HNE.out
    have HKXL := Lib.hid hkxl
    have y1 : ∀ y : Lat (fun b _ => b = kx ∨ (Value.slice xa e.scores.length xc).ownBlock = some b) w5, y.world.cell? ⟨k6, 1, none⟩ = some (.int .i64 TH.score) := fun y => (K65.out.chg y.chg (by rintro ⟨_, e1 | e1⟩; exact HN6.out.1 e1; exact HN6.out.2 _ e1 rfl)).cell 1 rfl
    have y5 : ∀ y : Lat (fun b _ => b = kx ∨ (Value.slice xa e.scores.length xc).ownBlock = some b) w5, y.world.cell? ⟨k6, 5, none⟩ = some (.bool TH.won) := fun y => (K65.out.chg y.chg (by rintro ⟨_, e1 | e1⟩; exact HN6.out.1 e1; exact HN6.out.2 _ e1 rfl)).cell 5 rfl
    have yl := K65.out.lt
    clear hSV hne5
    go_upto_region 9 with fail
    refine wp_region_lat (by kernel_rfl) (fun b _ => b = kx ∨ (Value.slice xa e.scores.length xc).ownBlock = some b) thrN (ThrR (.slice xa e.scores.length xc) e.scores.length)
      (ThrG kx lo w5.heap.size (.slice xa e.scores.length xc) TH.score e.scores #[.int .i64 start, .int .i64 gin, .int .i64 gout, .slice ba beds.length bc, .int .i64 tn.legs, .int .i64 tn.won, .int .i64 tn.visits, .int .i64 tn.points, .int .i64 tn.darts.lo, .int .i64 tn.darts.hi, .int .i64 tn.tried.lo, .int .i64 tn.tried.hi, .int .i64 tn.tons, .int .i64 tn.highs, .int .i64 tn.tops, .int .i64 tn.best, .int .i64 e.left, .bool e.inn, .int .i64 start, .int .i64 gin, .int .i64 gout, .slice la beds.length lc, .slice xa e.scores.length xc, .bool e.won] (fun v => #[.int .i64 start, .int .i64 gin, .int .i64 gout, .slice ba beds.length bc, .int .i64 tn.legs, .int .i64 tn.won, .int .i64 tn.visits, .int .i64 tn.points, .int .i64 tn.darts.lo, .int .i64 tn.darts.hi, .int .i64 tn.tried.lo, .int .i64 tn.tried.hi, .int .i64 tn.tons, .int .i64 tn.highs, .int .i64 tn.tops, .int .i64 tn.best, .int .i64 e.left, .bool e.inn, .int .i64 start, .int .i64 gin, .int .i64 gout, .slice la beds.length lc, v, .bool e.won]) (fun v => #[.int .i64 start, .int .i64 gin, .int .i64 gout, .slice ba beds.length bc, .int .i64 tn.legs, .int .i64 tn.won, .int .i64 tn.visits, .int .i64 tn.points, .int .i64 tn.darts.lo, .int .i64 tn.darts.hi, .int .i64 tn.tried.lo, .int .i64 tn.tried.hi, .int .i64 tn.tons, .int .i64 tn.highs, .int .i64 tn.tops, .int .i64 tn.best, .int .i64 e.left, .bool e.inn, .int .i64 start, .int .i64 gin, .int .i64 gout, .slice la beds.length lc, v, .bool TH.won])) (by kernel_rfl)
      (fun k hk => by
        simp only [thrN, Bool.or_eq_true, beq_iff_eq] at hk
        rcases hk with rfl | rfl | rfl | rfl | rfl <;> decide)
      (fun L L' u w' h hg => hg.congr (h 9 rfl) (h 10 rfl) (h 16 rfl) (h 20 rfl) rfl rfl) (fun L u a b h hx => h.ext hx) (thrU (.slice xa e.scores.length xc) e.scores.length) (fun k _ => thrU_R _ _ k)
      ⟨HK5.out.ext (Ext.refl w5).drew, fun h => (by cases h), fun _ => HS5.out.ext (Ext.refl w5).drew, fun h => (by cases h)⟩ ?_
    intro T hT hne2 u hu
    have e6 := (hu 6 rfl).r6 rfl
    obtain ⟨k9, e9⟩ := (hu 9 rfl).r9 rfl
    obtain ⟨na, nc, e10⟩ := (hu 10 rfl).r10 rfl
    refine lx_next 6 (by rfl) (by decide) ?_
    dsimp only [List.take, List.drop]
    repeat (go_big_quiet_step (fail))
    refine wpQuiet_nil ?_
    refine lx_loud (by rfl) (by kernel_rfl) ?_ (fun K hK => ?_)
    · intro L w6 hL hd hcl hC hs
      obtain ⟨y, rfl⟩ := hC
      have d16 := hcl.off hL 40 16 (by kernel_rfl)
      have d20 := hcl.off hL 40 20 (by kernel_rfl)
      have HS := Lib.hid hs
      have hb := hs.blk
      rw [d16, d20] at hb
      have hb : Blk y.world kx #[.int .i64 start, .int .i64 gin, .int .i64 gout, .slice ba beds.length bc, .int .i64 tn.legs, .int .i64 tn.won, .int .i64 tn.visits, .int .i64 tn.points, .int .i64 tn.darts.lo, .int .i64 tn.darts.hi, .int .i64 tn.tried.lo, .int .i64 tn.tried.hi, .int .i64 tn.tons, .int .i64 tn.highs, .int .i64 tn.tops, .int .i64 tn.best, .int .i64 e.left, .bool e.inn, .int .i64 start, .int .i64 gin, .int .i64 gout, .slice la beds.length lc, .slice xa e.scores.length xc, .bool e.won] := hb
      have r0 := hb.cell 22 (v := .slice xa e.scores.length xc) rfl
      have rl := hb.lt
      clear hs hb hL hd hcl d16 d20
      go_wp2
      exact ⟨⟨fun _ => rfl, fun h => absurd h (by decide), fun h => absurd h (by decide)⟩, ⟨y, rfl⟩, HS.out.congr rfl rfl rfl rfl rfl rfl⟩
    rw [e6]
    go_simp
    with_reducible refine hK _ ?_
    clear hK K
    refine lx_next 2 (by rfl) (by decide) ?_
    dsimp only [List.take, List.drop]
    repeat (go_big_quiet_step (fail))
    refine wpQuiet_nil ?_
    refine lx_loud (by rfl) (by kernel_rfl) ?_ (fun K hK => ?_)
    · intro L w6 hL hd hcl hC hs
      obtain ⟨y, rfl⟩ := hC
      have d10 := hcl.off hL 40 10 (by kernel_rfl)
      have HS := Lib.hid hs
      have hys := y.size
      have D10 := Lib.hid d10
      clear hs hL hd hcl d10
      go_wp2
      have hx : Ext y.world (y.world.alloc (.cells #[.int .i64 TH.score] 3)) := (Ext.refl _).alloc _
      have hs' := HS.out.ext hx
      exact ⟨⟨fun h => absurd h (by decide), fun _ => ⟨_, rfl⟩, fun h => absurd h (by decide)⟩, ⟨y.ext hx, rfl⟩, ⟨hs'.blk, fun _ _ => ⟨_, rfl, hys, Blk.new _ _ _⟩, hs'.o0, fun h => absurd h (by rw [show upd L 9 10 = L 10 from rfl, D10.out]; simp)⟩⟩
    rw [e9]
    go_simp
    with_reducible refine hK _ ?_
    clear hK K
    refine lx_loud (by rfl) (by kernel_rfl) ?_ (fun K hK => ?_)
    · intro L w6 hL hd hcl hC hs
      obtain ⟨y, rfl⟩ := hC
      have D16 := Lib.hid (hcl.off hL 40 16 (by kernel_rfl))
      have D20 := Lib.hid (hcl.off hL 40 20 (by kernel_rfl))
      obtain ⟨k, ek, hk, hbk⟩ := hs.b9 (hd 9 (by kernel_rfl)) hL
      obtain rfl : k9 = k := by have h := e9.symm.trans ek; cases h; rfl
      have hown := hs.o0 hL
      have hb := hs.blk
      rw [D16.out, D20.out] at hb
      have hb : Blk y.world kx #[.int .i64 start, .int .i64 gin, .int .i64 gout, .slice ba beds.length bc, .int .i64 tn.legs, .int .i64 tn.won, .int .i64 tn.visits, .int .i64 tn.points, .int .i64 tn.darts.lo, .int .i64 tn.darts.hi, .int .i64 tn.tried.lo, .int .i64 tn.tried.hi, .int .i64 tn.tons, .int .i64 tn.highs, .int .i64 tn.tops, .int .i64 tn.best, .int .i64 e.left, .bool e.inn, .int .i64 start, .int .i64 gin, .int .i64 gout, .slice la beds.length lc, .slice xa e.scores.length xc, .bool e.won] := hb
      have HBX := Lib.hid hb
      have HBK := Lib.hid hbk
      have HOW := Lib.hid hown
      have hys := y.size
      have hlo := HLO.out
      have hsl := HSL.out
      have hx4 := HX4.out.size
      have hx5 := HC5.out.size
      obtain ⟨i0, hi0, hz0, hz1, hz2⟩ := info_parts info_int
      clear hs hbk hk hb hown hd hcl hL ek
      go_wp2_with (at_builtin; refine wpList_append_own_at _ rfl _ _ 26 rfl lo 3 i0 _ 1 8 (by kernel_rfl) hi0 hz0 hz1 hz2 rfl (by decide) _ e.scores.length (e.scores.map (Value.int .i64)) rfl HOW.out ⟨k9, 0, none⟩ 1 1 [.int .i64 TH.score] rfl rfl ?_ ?_ (by unfold maxLen; omega) (by omega) (by omega) ?_)
      · intro j u' hj
        match j, hj with
        | 0, hj => cases hj; rw [addr_add]; exact HBK.out.cell 0 rfl
      · intro u' hu'
        cases hu' with
        | head => rfl
        | tail _ h => cases h
      intro v' w7 ho7 hg7 _ hat
      have ho8 : OwnI w7 lo v' (e.scores ++ [TH.score]) := by
        show w7.ownsRow _ _ _ _ (e.scores ++ [TH.score]).length ((e.scores ++ [TH.score]).map (Value.int .i64))
        rw [List.length_append, List.map_append]
        exact ho7
      obtain ⟨oa, oc, ev⟩ := own_shape ho8
      rw [show (e.scores ++ [TH.score]).length = e.scores.length + 1 by simp] at ev
      subst ev
      have hc7 := grown_chg hg7
      have hb7 := HBX.out.chg hc7 (fun e1 => HNE.out _ e1 rfl)
      go_wp2
      refine ⟨⟨fun h => absurd h (by decide), fun h => absurd h (by decide), fun _ => ⟨_, _, rfl⟩⟩, ⟨y.chgd hc7 (fun b hb => .inr fun _ => .inr hb), rfl⟩, ⟨?_, fun _ h => absurd h (by simp [upd]), fun h => absurd h (by simp [upd]), fun _ => ⟨ho8, fun k hk => ?_⟩⟩⟩
      · rw [show upd L 10 16 = L 16 from rfl, show upd L 10 20 = L 20 from rfl, D16.out, D20.out]
        exact hb7
      · have hk : (Value.slice oa (e.scores.length + 1) oc).ownBlock = some k := hk
        rcases hat with h | h
        · have h1 := h ▸ hk
          exact ⟨HNE.out k h1, .inl h1⟩
        · have h1 : k = y.world.heap.size := by rw [h] at hk; exact (Option.some.inj hk).symm
          have h2 := HKXL.out
          exact ⟨by omega, .inr (by omega)⟩
    rw [e10]
    go_simp
    with_reducible refine hK _ ?_
    clear hK K
    refine lx_next 5 (by rfl) (by decide) ?_
    dsimp only [List.take, List.drop]
    repeat (go_big_quiet_step (fail))
    refine wpQuiet_nil ?_
    refine lx_loud (by rfl) (by kernel_rfl) ?_ (fun K hK => ?_)
    · intro L w6 hL hd hcl hC hs
      obtain ⟨y, rfl⟩ := hC
      have D20 := Lib.hid (hcl.off hL 40 20 (by kernel_rfl))
      have D10 := Lib.hid (hd 10 (by kernel_rfl))
      obtain ⟨ho, hob⟩ := hs.o1 D10.out
      have hb := hs.blk
      rw [hL, D20.out] at hb
      have hb : Blk y.world kx #[.int .i64 start, .int .i64 gin, .int .i64 gout, .slice ba beds.length bc, .int .i64 tn.legs, .int .i64 tn.won, .int .i64 tn.visits, .int .i64 tn.points, .int .i64 tn.darts.lo, .int .i64 tn.darts.hi, .int .i64 tn.tried.lo, .int .i64 tn.tried.hi, .int .i64 tn.tons, .int .i64 tn.highs, .int .i64 tn.tops, .int .i64 tn.best, .int .i64 e.left, .bool e.inn, .int .i64 start, .int .i64 gin, .int .i64 gout, .slice la beds.length lc, .slice xa e.scores.length xc, .bool e.won] := hb
      rw [e10] at ho hob
      have HO := Lib.hid ho
      have HOB := Lib.hid hob
      have r0 := hb.cell 22 (v := .slice xa e.scores.length xc) rfl
      have rf0 := hb.frozen 22
      have rl := hb.lt
      have HBX := Lib.hid hb
      clear hs hb ho hob hd hcl hL
      go_wp2
      have hb7 : Blk _ kx #[.int .i64 start, .int .i64 gin, .int .i64 gout, .slice ba beds.length bc, .int .i64 tn.legs, .int .i64 tn.won, .int .i64 tn.visits, .int .i64 tn.points, .int .i64 tn.darts.lo, .int .i64 tn.darts.hi, .int .i64 tn.tried.lo, .int .i64 tn.tried.hi, .int .i64 tn.tons, .int .i64 tn.highs, .int .i64 tn.tops, .int .i64 tn.best, .int .i64 e.left, .bool e.inn, .int .i64 start, .int .i64 gin, .int .i64 gout, .slice la beds.length lc, .slice na (e.scores.length + 1) nc, .bool e.won] := HBX.out.set 22 (.slice na (e.scores.length + 1) nc)
      have hc7 := (Chg.refl (· = kx) y.world).setCell (p := ⟨kx, 22, none⟩) (.inr rfl) (.slice na (e.scores.length + 1) nc)
      refine ⟨⟨fun h => absurd h (by decide), fun h => absurd h (by decide), fun h => absurd h (by decide)⟩, ⟨y.chgd hc7 (fun b hb => .inr fun _ => .inl hb), rfl⟩, ⟨?_, fun _ h => absurd h (by rw [show upd L 16 10 = L 10 from rfl, D10.out]; simp), fun h => absurd h (by rw [show upd L 16 10 = L 10 from rfl, D10.out]; simp), fun _ => ?_⟩⟩
      · rw [show upd L 16 16 = true from rfl, show upd L 16 20 = L 20 from rfl, D20.out, show updv u 16 _ 10 = u 10 from rfl, e10]
        exact hb7
      · rw [show updv u 16 _ 10 = u 10 from rfl, e10]
        exact ⟨HO.out.chg hc7 (fun k hk e1 => (HOB.out k hk).1 e1), HOB.out⟩
    go_simp
    with_reducible refine hK _ ?_
    clear hK K
    refine lx_next 3 (by rfl) (by decide) ?_
    dsimp only [List.take, List.drop]
    repeat (go_big_quiet_step (fail))
    refine wpQuiet_nil ?_
    refine lx_loud (by rfl) (by kernel_rfl) ?_ (fun K hK => ?_)
    · intro L w6 hL hd hcl hC hs
      obtain ⟨y, rfl⟩ := hC
      have D16 := Lib.hid (hd 16 (by kernel_rfl))
      have D10 := Lib.hid (hd 10 (by kernel_rfl))
      obtain ⟨ho, hob⟩ := hs.o1 D10.out
      have hb := hs.blk
      rw [hL, D16.out] at hb
      rw [e10] at ho hob hb
      have hb : Blk y.world kx #[.int .i64 start, .int .i64 gin, .int .i64 gout, .slice ba beds.length bc, .int .i64 tn.legs, .int .i64 tn.won, .int .i64 tn.visits, .int .i64 tn.points, .int .i64 tn.darts.lo, .int .i64 tn.darts.hi, .int .i64 tn.tried.lo, .int .i64 tn.tried.hi, .int .i64 tn.tons, .int .i64 tn.highs, .int .i64 tn.tops, .int .i64 tn.best, .int .i64 e.left, .bool e.inn, .int .i64 start, .int .i64 gin, .int .i64 gout, .slice la beds.length lc, .slice na (e.scores.length + 1) nc, .bool e.won] := hb
      have HO := Lib.hid ho
      have HOB := Lib.hid hob
      have r0 := hb.cell 23 (v := .bool e.won) rfl
      have rf0 := hb.frozen 23
      have rl := hb.lt
      have HBX := Lib.hid hb
      clear hs hb ho hob hd hcl hL
      go_wp2
      have hb7 : Blk _ kx #[.int .i64 start, .int .i64 gin, .int .i64 gout, .slice ba beds.length bc, .int .i64 tn.legs, .int .i64 tn.won, .int .i64 tn.visits, .int .i64 tn.points, .int .i64 tn.darts.lo, .int .i64 tn.darts.hi, .int .i64 tn.tried.lo, .int .i64 tn.tried.hi, .int .i64 tn.tons, .int .i64 tn.highs, .int .i64 tn.tops, .int .i64 tn.best, .int .i64 e.left, .bool e.inn, .int .i64 start, .int .i64 gin, .int .i64 gout, .slice la beds.length lc, .slice na (e.scores.length + 1) nc, .bool TH.won] := HBX.out.set 23 (.bool TH.won)
      have hc7 := (Chg.refl (· = kx) y.world).setCell (p := ⟨kx, 23, none⟩) (.inr rfl) (.bool TH.won)
      refine ⟨⟨fun h => absurd h (by decide), fun h => absurd h (by decide), fun h => absurd h (by decide)⟩, ⟨y.chgd hc7 (fun b hb => .inr fun _ => .inl hb), rfl⟩, ⟨?_, fun _ h => absurd h (by rw [show upd L 20 10 = L 10 from rfl, D10.out]; simp), fun h => absurd h (by rw [show upd L 20 10 = L 10 from rfl, D10.out]; simp), fun _ => ?_⟩⟩
      · rw [show upd L 20 20 = true from rfl, show updv u 20 _ 10 = u 10 from rfl, e10]
        exact hb7
      · rw [show updv u 20 _ 10 = u 10 from rfl, e10]
        exact ⟨HO.out.chg hc7 (fun k hk e1 => (HOB.out k hk).1 e1), HOB.out⟩
    go_simp
    with_reducible refine hK _ ?_
    clear hK K
    refine lx_nil ?_
    intro y hs
    obtain ⟨ho, hob⟩ := hs.o1 rfl
    have hb := hs.blk
    rw [e10] at ho hob hb
    have HK7 : Hid (Blk y.world kx #[.int .i64 start, .int .i64 gin, .int .i64 gout, .slice ba beds.length bc, .int .i64 tn.legs, .int .i64 tn.won, .int .i64 tn.visits, .int .i64 tn.points, .int .i64 tn.darts.lo, .int .i64 tn.darts.hi, .int .i64 tn.tried.lo, .int .i64 tn.tried.hi, .int .i64 tn.tons, .int .i64 tn.highs, .int .i64 tn.tops, .int .i64 tn.best, .int .i64 e.left, .bool e.inn, .int .i64 start, .int .i64 gin, .int .i64 gout, .slice la beds.length lc, .slice na (e.scores.length + 1) nc, .bool TH.won]) := Lib.hid hb
    have HO7 := Lib.hid ho
    have HOB7 := Lib.hid hob
    have HC7 : Hid (Chg (fun b => b = kx ∨ (Value.slice xa e.scores.length xc).ownBlock = some b) w5 y.world) := Lib.hid (y.chg.mono (by rintro q - ⟨_, e⟩; exact e))
    clear hs ho hob hb hu hT hne2 e6 e9 e10 y1 y5 yl hkxl
    generalize y.world = w7 at *
    clear y
    have K67 := Lib.hid (K65.out.chg HC7.out (by rintro (e1 | e1); exact HN6.out.1 e1; exact HN6.out.2 _ e1 rfl))
    have y0 : ∀ y : Lat (fun b _ => b = kx) w7, y.world.cell? ⟨k6, 0, none⟩ = some (.int .i64 TH.left) := fun y => (K67.out.chg y.chg (by rintro ⟨_, e1⟩; exact HN6.out.1 e1)).cell 0 rfl
    have y3 : ∀ y : Lat (fun b _ => b = kx) w7, y.world.cell? ⟨k6, 3, none⟩ = some (.bool TH.inn) := fun y => (K67.out.chg y.chg (by rintro ⟨_, e1⟩; exact HN6.out.1 e1)).cell 3 rfl
    have yl := K67.out.lt
    go_upto_region 10 with fail
    refine wp_region_lat (by kernel_rfl) (fun b _ => b = kx) (fun k => (k == 9) || ((k == 13))) (RsIs []) (fun L _ W => Blk W kx (bif L 13 then #[.int .i64 start, .int .i64 gin, .int .i64 gout, .slice ba beds.length bc, .int .i64 tn.legs, .int .i64 tn.won, .int .i64 tn.visits, .int .i64 tn.points, .int .i64 tn.darts.lo, .int .i64 tn.darts.hi, .int .i64 tn.tried.lo, .int .i64 tn.tried.hi, .int .i64 tn.tons, .int .i64 tn.highs, .int .i64 tn.tops, .int .i64 tn.best, .int .i64 TH.left, .bool TH.inn, .int .i64 start, .int .i64 gin, .int .i64 gout, .slice la beds.length lc, .slice na (e.scores.length + 1) nc, .bool TH.won] else (bif L 9 then #[.int .i64 start, .int .i64 gin, .int .i64 gout, .slice ba beds.length bc, .int .i64 tn.legs, .int .i64 tn.won, .int .i64 tn.visits, .int .i64 tn.points, .int .i64 tn.darts.lo, .int .i64 tn.darts.hi, .int .i64 tn.tried.lo, .int .i64 tn.tried.hi, .int .i64 tn.tons, .int .i64 tn.highs, .int .i64 tn.tops, .int .i64 tn.best, .int .i64 TH.left, .bool e.inn, .int .i64 start, .int .i64 gin, .int .i64 gout, .slice la beds.length lc, .slice na (e.scores.length + 1) nc, .bool TH.won] else #[.int .i64 start, .int .i64 gin, .int .i64 gout, .slice ba beds.length bc, .int .i64 tn.legs, .int .i64 tn.won, .int .i64 tn.visits, .int .i64 tn.points, .int .i64 tn.darts.lo, .int .i64 tn.darts.hi, .int .i64 tn.tried.lo, .int .i64 tn.tried.hi, .int .i64 tn.tons, .int .i64 tn.highs, .int .i64 tn.tops, .int .i64 tn.best, .int .i64 e.left, .bool e.inn, .int .i64 start, .int .i64 gin, .int .i64 gout, .slice la beds.length lc, .slice na (e.scores.length + 1) nc, .bool TH.won]))) (by kernel_rfl)
      (fun k hk => by
        simp only [Bool.or_eq_true, beq_iff_eq] at hk
        rcases hk with rfl | rfl <;> decide)
      (fun L L' u w' h hg => by first | (rw [h 9 (by rfl), h 13 (by rfl)]; exact hg) | exact hg) (fun L u a b h hx => h.ext hx) (rsW []) (fun k _ => rsW_ok _ k) (HK7.out.ext (Ext.refl w7).drew) ?_
    intro T hT hne2 u hu
    refine lx_next 9 (by rfl) (by decide) ?_
    dsimp only [List.take, List.drop]
    repeat (go_big_quiet_step (fail))
    refine wpQuiet_nil ?_
    refine lx_loud (by rfl) (by kernel_rfl) ?_ (fun K hK => ?_)
    · intro L w4 hL hd hcl hC hs
      obtain ⟨y, rfl⟩ := hC
      have d13 := hcl.off hL 40 13 (by kernel_rfl)
      rw [hL, d13] at hs
      have hs : Blk y.world kx #[.int .i64 start, .int .i64 gin, .int .i64 gout, .slice ba beds.length bc, .int .i64 tn.legs, .int .i64 tn.won, .int .i64 tn.visits, .int .i64 tn.points, .int .i64 tn.darts.lo, .int .i64 tn.darts.hi, .int .i64 tn.tried.lo, .int .i64 tn.tried.hi, .int .i64 tn.tons, .int .i64 tn.highs, .int .i64 tn.tops, .int .i64 tn.best, .int .i64 e.left, .bool e.inn, .int .i64 start, .int .i64 gin, .int .i64 gout, .slice la beds.length lc, .slice na (e.scores.length + 1) nc, .bool TH.won] := hs
      have r0 := hs.cell 16 (v := .int .i64 e.left) rfl
      have rf0 := hs.frozen 16
      have rl := hs.lt
      have HS := Lib.hid hs
      have D13 := Lib.hid d13
      have HLL := Lib.hid hL
      clear hs hd hcl hL d13
      go_wp2
      have hb0 : Blk _ kx #[.int .i64 start, .int .i64 gin, .int .i64 gout, .slice ba beds.length bc, .int .i64 tn.legs, .int .i64 tn.won, .int .i64 tn.visits, .int .i64 tn.points, .int .i64 tn.darts.lo, .int .i64 tn.darts.hi, .int .i64 tn.tried.lo, .int .i64 tn.tried.hi, .int .i64 tn.tons, .int .i64 tn.highs, .int .i64 tn.tops, .int .i64 tn.best, .int .i64 TH.left, .bool e.inn, .int .i64 start, .int .i64 gin, .int .i64 gout, .slice la beds.length lc, .slice na (e.scores.length + 1) nc, .bool TH.won] := HS.out.set 16 (.int .i64 TH.left)
      exact ⟨trivial, ⟨y.chgd ((Chg.refl (· = kx) y.world).setCell (.inr rfl) (.int .i64 TH.left)) (fun b hb => .inr fun _ => hb), rfl⟩, by first | (rw [show upd L 9 9 = true from rfl, show upd L 9 13 = L 13 from rfl, D13.out]; exact hb0) | exact hb0⟩
    go_simp
    with_reducible refine hK _ ?_
    clear hK K
    refine lx_next 3 (by rfl) (by decide) ?_
    dsimp only [List.take, List.drop]
    repeat (go_big_quiet_step (fail))
    refine wpQuiet_nil ?_
    refine lx_loud (by rfl) (by kernel_rfl) ?_ (fun K hK => ?_)
    · intro L w4 hL hd hcl hC hs
      obtain ⟨y, rfl⟩ := hC
      have d9 := hd 9 (by kernel_rfl)
      rw [hL, d9] at hs
      have hs : Blk y.world kx #[.int .i64 start, .int .i64 gin, .int .i64 gout, .slice ba beds.length bc, .int .i64 tn.legs, .int .i64 tn.won, .int .i64 tn.visits, .int .i64 tn.points, .int .i64 tn.darts.lo, .int .i64 tn.darts.hi, .int .i64 tn.tried.lo, .int .i64 tn.tried.hi, .int .i64 tn.tons, .int .i64 tn.highs, .int .i64 tn.tops, .int .i64 tn.best, .int .i64 TH.left, .bool e.inn, .int .i64 start, .int .i64 gin, .int .i64 gout, .slice la beds.length lc, .slice na (e.scores.length + 1) nc, .bool TH.won] := hs
      have r0 := hs.cell 17 (v := .bool e.inn) rfl
      have rf0 := hs.frozen 17
      have rl := hs.lt
      have HS := Lib.hid hs
      have D9 := Lib.hid d9
      have HLL := Lib.hid hL
      clear hs hd hcl hL d9
      go_wp2
      have hb0 : Blk _ kx #[.int .i64 start, .int .i64 gin, .int .i64 gout, .slice ba beds.length bc, .int .i64 tn.legs, .int .i64 tn.won, .int .i64 tn.visits, .int .i64 tn.points, .int .i64 tn.darts.lo, .int .i64 tn.darts.hi, .int .i64 tn.tried.lo, .int .i64 tn.tried.hi, .int .i64 tn.tons, .int .i64 tn.highs, .int .i64 tn.tops, .int .i64 tn.best, .int .i64 TH.left, .bool TH.inn, .int .i64 start, .int .i64 gin, .int .i64 gout, .slice la beds.length lc, .slice na (e.scores.length + 1) nc, .bool TH.won] := HS.out.set 17 (.bool TH.inn)
      exact ⟨trivial, ⟨y.chgd ((Chg.refl (· = kx) y.world).setCell (.inr rfl) (.bool TH.inn)) (fun b hb => .inr fun _ => hb), rfl⟩, by first | (rw [show upd L 13 9 = L 9 from rfl, D9.out, show upd L 13 13 = true from rfl]; exact hb0) | exact hb0⟩
    go_simp
    with_reducible refine hK _ ?_
    clear hK K
    refine lx_nil ?_
    intro y hs
    have HK8 : Hid (Blk y.world kx #[.int .i64 start, .int .i64 gin, .int .i64 gout, .slice ba beds.length bc, .int .i64 tn.legs, .int .i64 tn.won, .int .i64 tn.visits, .int .i64 tn.points, .int .i64 tn.darts.lo, .int .i64 tn.darts.hi, .int .i64 tn.tried.lo, .int .i64 tn.tried.hi, .int .i64 tn.tons, .int .i64 tn.highs, .int .i64 tn.tops, .int .i64 tn.best, .int .i64 TH.left, .bool TH.inn, .int .i64 start, .int .i64 gin, .int .i64 gout, .slice la beds.length lc, .slice na (e.scores.length + 1) nc, .bool TH.won]) := Lib.hid hs
    have HCw8 : Hid (Chg (· = kx) w7 y.world) := Lib.hid (y.chg.mono (by rintro q - ⟨_, e⟩; exact e))
    clear hs hu hT hne2 y0 y3 yl
    generalize y.world = w8 at *
    clear y
    go_wp2
    refine bodyPost_ret (v := .int .i64 0) (by simp [results, Try.results66, go_sem]) rfl ⟨by rw [HE.out], fun h => absurd HE.out h, fun _ => ⟨_, by rw [HRS3.out]; exact HK8.out, by rw [HRS3.out]; exact HO7.out.chg HCw8.out (fun k hk e1 => (HOB7.out k hk).1 e1), fun k hk => ⟨(HOB7.out k hk).1, (HOB7.out k hk).2.imp id (fun h => ?_)⟩, ?_⟩⟩
    · have h1 := HX4.out.size
      have h2 := HC5.out.size
      omega
    · exact (((HX4.out.chg _).trans (HC5.out.mono (fun _ _ h => .inl h))).trans HC7.out).trans (HCw8.out.mono (fun _ _ h => .inl h))
  · have HE2 := Lib.hid he0
    go_wp2
    refine bodyPost_ret (v := .int .i64 er) (by simp [results, Try.results66, go_sem]) rfl ⟨by rw [HE.out], fun _ => HX2.out, fun h => absurd (by rw [HE.out] at h; exact h) HE2.out⟩
end Go.Proofs.Ytmopadnkjlodnaa
