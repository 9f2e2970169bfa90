/-
  The reference of chapter 6: wide, Spans.
-/
import Derived.Test.YtmopadnkjlodnaaRav
namespace Go.Proofs.Ytmopadnkjlodnaa
open Go.RowKit Go.BigFrame
attribute [local go_sem] Oper.semAt_some Later.cell Later.frozen Lat.cell Lat.frozen NoX
/-- A span with one integer more. -/
def widL (lo : Int) (first : Bool) (n : Int) : Int := if first = true then n else min lo n
def widH (hi : Int) (first : Bool) (n : Int) : Int := if first = true then n else max hi n
theorem ref_wide (lo hi : Int) (first : Bool) (n : Int) (w : World) : Calls Try.prog 56 #[.agg #[.int .i64 lo, .int .i64 hi], .bool first, .int .i64 n] w fun e w' => e = .returned (.agg #[.int .i64 (widL lo first n), .int .i64 (widH hi first n)]) ∧ Ext w w' := by
  obtain ⟨a, ha⟩ : ∃ a, widL lo first n = a := ⟨_, rfl⟩
  obtain ⟨b, hb⟩ : ∃ b, widH hi first n = b := ⟨_, rfl⟩
  rw [ha, hb]
  have HA := Lib.hid ha
  have HB := Lib.hid hb
  clear ha hb
  cases first
  · by_cases h1 : lo ≤ n
    · by_cases h2 : n ≤ hi
      · obtain rfl : lo = a := by rw [← HA.out]; unfold widL; rw [if_neg (by decide)]; omega
        obtain rfl : hi = b := by rw [← HB.out]; unfold widH; rw [if_neg (by decide)]; omega
        clear HA HB
        go_enter Try.func56, Try.ntmps56
        go_wp2
        refine bodyPost_ret (v := .agg #[.int .i64 lo, .int .i64 hi]) (by simp [results, Try.results56, go_sem]) rfl ⟨rfl, ((Ext.refl w).alloc _).alloc _⟩
      · obtain rfl : lo = a := by rw [← HA.out]; unfold widL; rw [if_neg (by decide)]; omega
        obtain rfl : n = b := by rw [← HB.out]; unfold widH; rw [if_neg (by decide)]; omega
        clear HA HB
        go_enter Try.func56, Try.ntmps56
        go_wp2
        refine bodyPost_ret (v := .agg #[.int .i64 lo, .int .i64 n]) (by simp [results, Try.results56, go_sem]) rfl ⟨rfl, ((Ext.refl w).alloc _).alloc _⟩
    · by_cases h2 : n ≤ hi
      · obtain rfl : n = a := by rw [← HA.out]; unfold widL; rw [if_neg (by decide)]; omega
        obtain rfl : hi = b := by rw [← HB.out]; unfold widH; rw [if_neg (by decide)]; omega
        clear HA HB
        go_enter Try.func56, Try.ntmps56
        go_wp2
        refine bodyPost_ret (v := .agg #[.int .i64 n, .int .i64 hi]) (by simp [results, Try.results56, go_sem]) rfl ⟨rfl, ((Ext.refl w).alloc _).alloc _⟩
      · obtain rfl : n = a := by rw [← HA.out]; unfold widL; rw [if_neg (by decide)]; omega
        obtain rfl : n = b := by rw [← HB.out]; unfold widH; rw [if_neg (by decide)]; omega
        clear HA HB
        go_enter Try.func56, Try.ntmps56
        go_wp2
        refine bodyPost_ret (v := .agg #[.int .i64 n, .int .i64 n]) (by simp [results, Try.results56, go_sem]) rfl ⟨rfl, ((Ext.refl w).alloc _).alloc _⟩
  · obtain rfl : n = a := by rw [← HA.out]; rfl
    obtain rfl : n = b := by rw [← HB.out]; rfl
    clear HA HB
    go_enter Try.func56, Try.ntmps56
    go_wp2
    refine bodyPost_ret (v := .agg #[.int .i64 n, .int .i64 n]) (by simp [results, Try.results56, go_sem]) rfl ⟨rfl, ((Ext.refl w).alloc _).alloc _⟩
theorem VRs.at {w : World} {base b2 : Nat} {v : Value} {ls : List (List Vi)} (h : VRs w base b2 v ls) (i : Nat) (hi : i < ls.length) : ∃ g cap a c, v = .slice (some ⟨g, 0, none⟩) ls.length cap ∧ w.cell? ⟨g, i, none⟩ = some (.slice a ls[i].length c) ∧ VLs w b2 (.slice a ls[i].length c) ls[i] := by
  obtain ⟨vals, h1, h2, h3⟩ := h
  obtain ⟨a, c, h4, h5⟩ := h3 i hi
  have hc := fun g (hg : v.ownBlock = some g) => World.ownsRow.cells (w := w) (g := g) h1 hg
  obtain ⟨-, ⟨-, e2⟩ | ⟨g, cap, cur, e1, -⟩⟩ := h1
  · omega
  · refine ⟨g, cap, a, c, e1, ?_, h5⟩
    have := hc g (by rw [e1]; rfl) i _ h4
    rwa [addr_add, Nat.zero_add] at this
theorem VLs.at {w : World} {base : Nat} {v : Value} {l : List Vi} (h : VLs w base v l) (i : Nat) (hi : i < l.length) : ∃ g cap a c, v = .slice (some ⟨g, 0, none⟩) l.length cap ∧ w.cell? ⟨g, i * 2, none⟩ = some (.slice a l[i].beds.length c) ∧ w.cell? ⟨g, i * 2 + 1, none⟩ = some (.int .i64 l[i].tried) ∧ OwnD w base (.slice a l[i].beds.length c) l[i].beds := by
  obtain ⟨vals, h1, h2, h3⟩ := h
  obtain ⟨a, c, h4, h5, h6⟩ := h3 i hi
  have hc := fun g (hg : v.ownBlock = some g) => World.ownsRow.cells (w := w) (g := g) h1 hg
  obtain ⟨-, ⟨-, e2⟩ | ⟨g, cap, cur, e1, -⟩⟩ := h1
  · omega
  · refine ⟨g, cap, a, c, e1, ?_, ?_, h6⟩
    · have := hc g (by rw [e1]; rfl) (2 * i) _ h4
      rwa [addr_add, Nat.zero_add, Nat.mul_comm] at this
    · have := hc g (by rw [e1]; rfl) (2 * i + 1) _ h5
      rwa [addr_add, Nat.zero_add, Nat.mul_comm] at this
theorem spnF_succ (l : List Vi) (k : Nat) (hk : k < l.length) : spnF (l.take (k + 1)) = addX (spnF (l.take k)) l[k].beds.length l[k].tried := by
  unfold spnF
  rw [List.take_succ_eq_append_getElem hk, List.foldl_append]
  rfl
theorem addX_wid (x : Ex) (d t : Int) : addX x d t = ⟨widL x.dl (!x.some) d, widH x.dh (!x.some) d, widL x.tl (!x.some) t, widH x.th (!x.some) t, true⟩ := by
  unfold addX widL widH
  cases x.some <;> simp
theorem spnF_some (l : List Vi) : ∀ k, k < l.length → (spnF (l.take (k + 1))).some = true := fun k hk => by
  rw [spnF_succ l k hk, addX_wid]
set_option maxRecDepth 100000 in
set_option maxHeartbeats 16000000 in
theorem ref_Spans (ls : List (List Vi)) (v : Value) (base b2 : Nat) (w : World) (hv : VRs w base b2 v ls) (hl : ls.length ≤ 1000) (hm : ∀ l ∈ ls, l.length ≤ 1000000 ∧ ∀ x ∈ l, x.beds.length ≤ 1000) :
    Calls Try.prog 21 #[v] w fun e w' => ∃ v', e = .returned v' ∧ OwnX w' w.heap.size v' (ls.map spnF) ∧ Ext w w' := by
  obtain ⟨va, vc, rfl⟩ := hv.shape
  have HV := Lib.hid hv
  have HM := Lib.hid hm
  clear hv hm
  go_enter Try.func21, Try.ntmps21
  go_wp2
  go_loopw [3, 4] (fun f i wr => ∃ (k : Nat) (fv : Value), k ≤ ls.length ∧ fv = f ∧ i = .int .i64 k ∧ OwnX wr w.heap.size fv ((ls.take k).map spnF) ∧ Ext w wr) (fun _ i _ => ls.length - (intOf i).toNat)
  case atStart => exact ⟨0, _, Nat.zero_le _, rfl, rfl, own_empty rfl (Nat.le_refl _), (Ext.refl w).alloc _⟩
  case round =>
    obtain ⟨k, fv, hk, rfl, rfl, hO, hx⟩ := hrel
    have HO := Lib.hid hO
    have HX := Lib.hid hx
    clear hO hx
    obtain ⟨w0, rfl⟩ : ∃ x, x = wr := ⟨_, rfl⟩
    by_cases hlt : k < ls.length
    · obtain ⟨g, cap, a0, la, e, hc, hvl⟩ := (HV.out.ext HX.out).at k hlt
      cases e
      obtain ⟨l, hll⟩ : ∃ l, ls[k] = l := ⟨_, rfl⟩
      rw [hll] at hc hvl
      have HLM : Hid (l.length ≤ 1000000 ∧ ∀ x ∈ l, x.beds.length ≤ 1000) := Lib.hid (hll ▸ HM.out _ (List.getElem_mem hlt))
      have HTK : Hid ((ls.take (k + 1)).map spnF = (ls.take k).map spnF ++ [spnF l]) := Lib.hid (by rw [List.take_succ_eq_append_getElem hlt, hll, List.map_append]; rfl)
      have HR := Lib.hid hc
      have HVL := Lib.hid hvl
      have hrl := lt_of_cell hc
      simp only at hrl
      clear hll hc hvl
      go_upto_region 6 with fail
      generalize hw5 : World.alloc w0 _ = w5
      obtain ⟨k5, hk5⟩ : ∃ y, y = w0.heap.size := ⟨_, rfl⟩
      rw [← hk5]
      have HB5 : Hid (Blk w5 k5 #[.int .i64 0, .int .i64 0, .int .i64 0, .int .i64 0]) := Lib.hid (by rw [← hw5, hk5]; exact Blk.new _ _ _)
      have HX5 : Hid (Ext w0 w5) := Lib.hid (by rw [← hw5]; exact (Ext.refl w0).alloc _)
      have HK5 := Lib.hid hk5
      clear hw5 hk5
      go_wp2
      go_loopw [6] (fun i wq => ∃ j : Nat, j ≤ l.length ∧ i = .int .i64 j ∧ Blk wq k5 #[.int .i64 (spnF (l.take j)).dl, .int .i64 (spnF (l.take j)).dh, .int .i64 (spnF (l.take j)).tl, .int .i64 (spnF (l.take j)).th] ∧ Chg (· = k5) w5 wq) (fun i _ => l.length - (intOf i).toNat)
      case atStart => exact ⟨0, Nat.zero_le _, rfl, HB5.out, Chg.refl _ _⟩
      case round =>
        obtain ⟨j, hj, rfl, hb, hch⟩ := hrel
        obtain ⟨w6, rfl⟩ : ∃ x, x = wr := ⟨_, rfl⟩
        have HCH := Lib.hid hch
        have HB6 := Lib.hid hb
        have HX6w : Hid (Ext w0 w6) := Lib.hid (Chg.to_ext HX5.out hch (fun i h => by have h1 := HK5.out; have h' : i = k5 := h; omega))
        have HR6 := Lib.hid (HX6w.out.cell HR.out)
        clear hb hch
        have c0 := HR6.out
        have cl := lt_of_cell HR6.out
        simp only at cl
        by_cases hjt : j < l.length
        · obtain ⟨g2, cap2, ba, bc2, e2, h1, h2, -⟩ := HVL.out.at j hjt
          cases e2
          have HSU := Lib.hid (spnF_succ l j hjt)
          have hbl := HLM.out.2 l[j] (List.getElem_mem hjt)
          obtain ⟨bn, hbn⟩ : ∃ n, l[j].beds.length = n := ⟨_, rfl⟩
          obtain ⟨t, ht⟩ : ∃ t, l[j].tried = t := ⟨_, rfl⟩
          rw [hbn] at h1 HSU hbl
          rw [ht] at h2 HSU
          have HV6 := Lib.hid (And.intro (HX6w.out.cell h1) (HX6w.out.cell h2))
          have HG : Hid (g < k5 ∧ g2 < k5) := Lib.hid (by have e1 := lt_of_cell HR.out; have e2 := lt_of_cell h1; have e3 := HK5.out; simp only at e1 e2; omega)
          have hlm := HLM.out.1
          clear hbn ht h1 h2
          cases j with
          | zero =>
            obtain ⟨⟨dl, dh, tl, th, so⟩, hsx⟩ : ∃ y, spnF (l.take 0) = y := ⟨_, rfl⟩
            have HSX := Lib.hid hsx
            have HSO : Hid (so = !true) := Lib.hid (by have h := congrArg Ex.some hsx; exact h.symm)
            rw [hsx] at HB6
            have HX6 : Hid (Blk w6 k5 #[.int .i64 dl, .int .i64 dh, .int .i64 tl, .int .i64 th]) := Lib.hid HB6.out
            have e0 : ((0 : Nat) : Int) = 0 := rfl
            rw [e0]
            have hl0 : (0 : Int) < (l.length : Int) := by omega
            clear hsx e0 HB6
            obtain ⟨a1, ha1⟩ : ∃ a, widL dl true (bn : Int) = a := ⟨_, rfl⟩
            obtain ⟨a2, ha2⟩ : ∃ a, widH dh true (bn : Int) = a := ⟨_, rfl⟩
            obtain ⟨a3, ha3⟩ : ∃ a, widL tl true t = a := ⟨_, rfl⟩
            obtain ⟨a4, ha4⟩ : ∃ a, widH th true t = a := ⟨_, rfl⟩
            have hw1 := fun W => ref_wide dl dh true (bn : Int) W
            have hw2 := fun W => ref_wide tl th true t W
            rw [ha1, ha2] at hw1
            rw [ha3, ha4] at hw2
            have HW1 := Lib.hid hw1
            have HW2 := Lib.hid hw2
            have HNEW : Hid (spnF (l.take (0 + 1)) = ⟨a1, a2, a3, a4, true⟩) := Lib.hid (by rw [HSU.out, HSX.out, addX_wid]; dsimp only; rw [HSO.out]; simp only [Bool.not_true, Bool.not_false]; rw [← ha1, ← ha2, ← ha3, ← ha4])
            clear hw1 hw2 ha1 ha2 ha3 ha4
            have r0 : ∀ y : Lat (fun b _ => b = k5) w6, y.world.cell? ⟨g, k, none⟩ = some (.slice (some ⟨g2, 0, none⟩) l.length la) := fun y => y.chg.cell HR6.out (by rintro ⟨_, e⟩; have h := HG.out.1; simp only at e; omega)
            have r1 : ∀ y : Lat (fun b _ => b = k5) w6, y.world.cell? ⟨g2, 0, none⟩ = some (.slice ba bn bc2) := fun y => y.chg.cell HV6.out.1 (by rintro ⟨_, e⟩; have h := HG.out.2; simp only at e; omega)
            have r2 : ∀ y : Lat (fun b _ => b = k5) w6, y.world.cell? ⟨g2, 1, none⟩ = some (.int .i64 t) := fun y => y.chg.cell HV6.out.2 (by rintro ⟨_, e⟩; have h := HG.out.2; simp only at e; omega)
            have rl0 := lt_of_cell HR6.out
            have rl1 := lt_of_cell HV6.out.1
            simp only at rl0 rl1
            go_upto_region 9 with fail
            refine wp_region_lat (by kernel_rfl) (fun b _ => b = k5) (fun k => (k == 1) || ((k == 15) || ((k == 28) || ((k == 30))))) (RsIs [(1, .agg #[.int .i64 dl, .int .i64 dh]), (15, .agg #[.int .i64 tl, .int .i64 th])]) (fun L _ W => Blk W k5 (bif L 30 then #[.int .i64 a1, .int .i64 a2, .int .i64 a3, .int .i64 a4] else (bif L 28 then #[.int .i64 a1, .int .i64 a2, .int .i64 tl, .int .i64 th] else #[.int .i64 dl, .int .i64 dh, .int .i64 tl, .int .i64 th]))) (by kernel_rfl)
              (fun k hk => by
                simp only [Bool.or_eq_true, beq_iff_eq] at hk
                rcases hk with rfl | rfl | rfl | rfl <;> decide)
              (fun L L' u w' h hg => by first | (rw [h 28 (by rfl), h 30 (by rfl)]; exact hg) | exact hg) (fun L u a b h hx => h.ext hx) (rsW [(1, .agg #[.int .i64 dl, .int .i64 dh]), (15, .agg #[.int .i64 tl, .int .i64 th])]) (fun k _ => rsW_ok _ k) (HX6.out.ext (Ext.refl w6).drew) ?_
            intro T hT hne2 u hu
            have e_1 : u 1 = .agg #[.int .i64 dl, .int .i64 dh] := hu 1 rfl
            have e_15 : u 15 = .agg #[.int .i64 tl, .int .i64 th] := hu 15 rfl
            refine lx_next 1 (by rfl) (by decide) ?_
            dsimp only [List.take, List.drop]
            repeat (go_big_quiet_step (first | with_reducible refine Calls.lat hT (HW1.out _) | with_reducible refine Calls.lat hT (HW2.out _)))
            refine wpQuiet_nil ?_
            refine lx_loud (by rfl) (by kernel_rfl) ?_ (fun K hK => ?_)
            · intro L w4 hL hd hcl hC hs
              obtain ⟨y, rfl⟩ := hC
              have d28 := hcl.off hL 40 28 (by kernel_rfl)
              have d30 := hcl.off hL 40 30 (by kernel_rfl)
              rw [d28, d30] at hs
              have hs : Blk y.world k5 #[.int .i64 dl, .int .i64 dh, .int .i64 tl, .int .i64 th] := hs
              have r0 := hs.cell 0 (v := .int .i64 dl) rfl
              have r1 := hs.cell 1 (v := .int .i64 dh) rfl
              have rl := hs.lt
              have HS := Lib.hid hs
              have D28 := Lib.hid d28
              have D30 := Lib.hid d30
              have HLL := Lib.hid hL
              clear hs hd hcl hL d28 d30
              go_wp2
              exact ⟨rfl, ⟨y, rfl⟩, by first | (rw [show upd L 1 28 = L 28 from rfl, D28.out, show upd L 1 30 = L 30 from rfl, D30.out]; exact HS.out) | exact HS.out⟩
            rw [e_1]
            go_simp
            with_reducible refine hK _ ?_
            clear hK K
            refine lx_next 13 (by rfl) (by decide) ?_
            dsimp only [List.take, List.drop]
            repeat (go_big_quiet_step (first | with_reducible refine Calls.lat hT (HW1.out _) | with_reducible refine Calls.lat hT (HW2.out _)))
            refine wpQuiet_nil ?_
            refine lx_loud (by rfl) (by kernel_rfl) ?_ (fun K hK => ?_)
            · intro L w4 hL hd hcl hC hs
              obtain ⟨y, rfl⟩ := hC
              have d28 := hcl.off hL 40 28 (by kernel_rfl)
              have d30 := hcl.off hL 40 30 (by kernel_rfl)
              rw [d28, d30] at hs
              have hs : Blk y.world k5 #[.int .i64 dl, .int .i64 dh, .int .i64 tl, .int .i64 th] := hs
              have r0 := hs.cell 2 (v := .int .i64 tl) rfl
              have r1 := hs.cell 3 (v := .int .i64 th) rfl
              have rl := hs.lt
              have HS := Lib.hid hs
              have D28 := Lib.hid d28
              have D30 := Lib.hid d30
              have HLL := Lib.hid hL
              clear hs hd hcl hL d28 d30
              go_wp2
              exact ⟨rfl, ⟨y, rfl⟩, by first | (rw [show upd L 15 28 = L 28 from rfl, D28.out, show upd L 15 30 = L 30 from rfl, D30.out]; exact HS.out) | exact HS.out⟩
            rw [e_15]
            go_simp
            with_reducible refine hK _ ?_
            clear hK K
            refine lx_next 12 (by rfl) (by decide) ?_
            dsimp only [List.take, List.drop]
            repeat (go_big_quiet_step (first | with_reducible refine Calls.lat hT (HW1.out _) | with_reducible refine Calls.lat hT (HW2.out _)))
            refine wpQuiet_nil ?_
            refine lx_loud (by rfl) (by kernel_rfl) ?_ (fun K hK => ?_)
            · intro L w4 hL hd hcl hC hs
              obtain ⟨y, rfl⟩ := hC
              have d30 := hcl.off hL 40 30 (by kernel_rfl)
              rw [hL, d30] at hs
              have hs : Blk y.world k5 #[.int .i64 dl, .int .i64 dh, .int .i64 tl, .int .i64 th] := hs
              have r0 := hs.cell 0 (v := .int .i64 dl) rfl
              have r1 := hs.cell 1 (v := .int .i64 dh) rfl
              have rf0 := hs.frozen 0
              have rf1 := hs.frozen 1
              have rl := hs.lt
              have HS := Lib.hid hs
              have D30 := Lib.hid d30
              have HLL := Lib.hid hL
              clear hs hd hcl hL d30
              go_wp2
              have hb0 : Blk _ k5 #[.int .i64 a1, .int .i64 dh, .int .i64 tl, .int .i64 th] := HS.out.set 0 (.int .i64 a1)
              have hb1 : Blk _ k5 #[.int .i64 a1, .int .i64 a2, .int .i64 tl, .int .i64 th] := hb0.set 1 (.int .i64 a2)
              exact ⟨trivial, ⟨y.chgd (((Chg.refl (· = k5) y.world).setCell (.inr rfl) (.int .i64 a1)).setCell (.inr rfl) (.int .i64 a2)) (fun b hb => .inr fun _ => hb), rfl⟩, by first | (rw [show upd L 28 28 = true from rfl, show upd L 28 30 = L 30 from rfl, D30.out]; exact hb1) | exact hb0⟩
            go_simp
            with_reducible refine hK _ ?_
            clear hK K
            refine lx_next 1 (by rfl) (by decide) ?_
            dsimp only [List.take, List.drop]
            repeat (go_big_quiet_step (first | with_reducible refine Calls.lat hT (HW1.out _) | with_reducible refine Calls.lat hT (HW2.out _)))
            refine wpQuiet_nil ?_
            refine lx_loud (by rfl) (by kernel_rfl) ?_ (fun K hK => ?_)
            · intro L w4 hL hd hcl hC hs
              obtain ⟨y, rfl⟩ := hC
              have d28 := hd 28 (by kernel_rfl)
              rw [hL, d28] at hs
              have hs : Blk y.world k5 #[.int .i64 a1, .int .i64 a2, .int .i64 tl, .int .i64 th] := hs
              have r0 := hs.cell 2 (v := .int .i64 tl) rfl
              have r1 := hs.cell 3 (v := .int .i64 th) rfl
              have rf0 := hs.frozen 2
              have rf1 := hs.frozen 3
              have rl := hs.lt
              have HS := Lib.hid hs
              have D28 := Lib.hid d28
              have HLL := Lib.hid hL
              clear hs hd hcl hL d28
              go_wp2
              have hb0 : Blk _ k5 #[.int .i64 a1, .int .i64 a2, .int .i64 a3, .int .i64 th] := HS.out.set 2 (.int .i64 a3)
              have hb1 : Blk _ k5 #[.int .i64 a1, .int .i64 a2, .int .i64 a3, .int .i64 a4] := hb0.set 3 (.int .i64 a4)
              exact ⟨trivial, ⟨y.chgd (((Chg.refl (· = k5) y.world).setCell (.inr rfl) (.int .i64 a3)).setCell (.inr rfl) (.int .i64 a4)) (fun b hb => .inr fun _ => hb), rfl⟩, by first | (rw [show upd L 30 28 = L 28 from rfl, D28.out, show upd L 30 30 = true from rfl]; exact hb1) | exact hb0⟩
            go_simp
            with_reducible refine hK _ ?_
            clear hK K
            refine lx_nil ?_
            intro y hs
            have HT9 : Hid (Blk y.world k5 #[.int .i64 a1, .int .i64 a2, .int .i64 a3, .int .i64 a4]) := Lib.hid hs
            have HCw9 : Hid (Chg (· = k5) w6 y.world) := Lib.hid (y.chg.mono (by rintro q - ⟨_, e⟩; exact e))
            clear hs hu hT hne2 e_1 e_15 r0 r1 r2 rl0 rl1
            generalize y.world = w9 at *
            clear y
            go_wp2
            go_roundw
            case rel => exact ⟨0 + 1, by omega, by go_num, by rw [HNEW.out]; exact HT9.out, HCH.out.trans HCw9.out⟩
            case measure => simp [intOf]; omega
          | succ j =>
            obtain ⟨⟨dl, dh, tl, th, so⟩, hsx⟩ : ∃ y, spnF (l.take (j + 1)) = y := ⟨_, rfl⟩
            have HSX := Lib.hid hsx
            have HSO : Hid (so = !false) := Lib.hid (by have h := congrArg Ex.some hsx; rw [spnF_some l j (by omega)] at h; exact h.symm)
            rw [hsx] at HB6
            have HX6 : Hid (Blk w6 k5 #[.int .i64 dl, .int .i64 dh, .int .i64 tl, .int .i64 th]) := Lib.hid HB6.out
            have hj0 : ¬ ((j : Int) + 1 = 0) := by omega
            have hj1 : (((j : Int) + 1) == 0) = false := by simpa using hj0
            clear hsx HB6
            obtain ⟨a1, ha1⟩ : ∃ a, widL dl false (bn : Int) = a := ⟨_, rfl⟩
            obtain ⟨a2, ha2⟩ : ∃ a, widH dh false (bn : Int) = a := ⟨_, rfl⟩
            obtain ⟨a3, ha3⟩ : ∃ a, widL tl false t = a := ⟨_, rfl⟩
            obtain ⟨a4, ha4⟩ : ∃ a, widH th false t = a := ⟨_, rfl⟩
            have hw1 := fun W => ref_wide dl dh false (bn : Int) W
            have hw2 := fun W => ref_wide tl th false t W
            rw [ha1, ha2] at hw1
            rw [ha3, ha4] at hw2
            have HW1 := Lib.hid hw1
            have HW2 := Lib.hid hw2
            have HNEW : Hid (spnF (l.take ((j + 1) + 1)) = ⟨a1, a2, a3, a4, true⟩) := Lib.hid (by rw [HSU.out, HSX.out, addX_wid]; dsimp only; rw [HSO.out]; simp only [Bool.not_true, Bool.not_false]; rw [← ha1, ← ha2, ← ha3, ← ha4])
            clear hw1 hw2 ha1 ha2 ha3 ha4
            have r0 : ∀ y : Lat (fun b _ => b = k5) w6, y.world.cell? ⟨g, k, none⟩ = some (.slice (some ⟨g2, 0, none⟩) l.length la) := fun y => y.chg.cell HR6.out (by rintro ⟨_, e⟩; have h := HG.out.1; simp only at e; omega)
            have r1 : ∀ y : Lat (fun b _ => b = k5) w6, y.world.cell? ⟨g2, (j + 1) * 2, none⟩ = some (.slice ba bn bc2) := fun y => y.chg.cell HV6.out.1 (by rintro ⟨_, e⟩; have h := HG.out.2; simp only at e; omega)
            have r2 : ∀ y : Lat (fun b _ => b = k5) w6, y.world.cell? ⟨g2, (j + 1) * 2 + 1, none⟩ = some (.int .i64 t) := fun y => y.chg.cell HV6.out.2 (by rintro ⟨_, e⟩; have h := HG.out.2; simp only at e; omega)
            have rl0 := lt_of_cell HR6.out
            have rl1 := lt_of_cell HV6.out.1
            simp only at rl0 rl1
            go_upto_region 9 with fail
            refine wp_region_lat (by kernel_rfl) (fun b _ => b = k5) (fun k => (k == 1) || ((k == 15) || ((k == 28) || ((k == 30))))) (RsIs [(1, .agg #[.int .i64 dl, .int .i64 dh]), (15, .agg #[.int .i64 tl, .int .i64 th])]) (fun L _ W => Blk W k5 (bif L 30 then #[.int .i64 a1, .int .i64 a2, .int .i64 a3, .int .i64 a4] else (bif L 28 then #[.int .i64 a1, .int .i64 a2, .int .i64 tl, .int .i64 th] else #[.int .i64 dl, .int .i64 dh, .int .i64 tl, .int .i64 th]))) (by kernel_rfl)
              (fun k hk => by
                simp only [Bool.or_eq_true, beq_iff_eq] at hk
                rcases hk with rfl | rfl | rfl | rfl <;> decide)
              (fun L L' u w' h hg => by first | (rw [h 28 (by rfl), h 30 (by rfl)]; exact hg) | exact hg) (fun L u a b h hx => h.ext hx) (rsW [(1, .agg #[.int .i64 dl, .int .i64 dh]), (15, .agg #[.int .i64 tl, .int .i64 th])]) (fun k _ => rsW_ok _ k) (HX6.out.ext (Ext.refl w6).drew) ?_
            intro T hT hne2 u hu
            have e_1 : u 1 = .agg #[.int .i64 dl, .int .i64 dh] := hu 1 rfl
            have e_15 : u 15 = .agg #[.int .i64 tl, .int .i64 th] := hu 15 rfl
            refine lx_next 1 (by rfl) (by decide) ?_
            dsimp only [List.take, List.drop]
            repeat (go_big_quiet_step (first | with_reducible refine Calls.lat hT (HW1.out _) | with_reducible refine Calls.lat hT (HW2.out _)))
            refine wpQuiet_nil ?_
            refine lx_loud (by rfl) (by kernel_rfl) ?_ (fun K hK => ?_)
            · intro L w4 hL hd hcl hC hs
              obtain ⟨y, rfl⟩ := hC
              have d28 := hcl.off hL 40 28 (by kernel_rfl)
              have d30 := hcl.off hL 40 30 (by kernel_rfl)
              rw [d28, d30] at hs
              have hs : Blk y.world k5 #[.int .i64 dl, .int .i64 dh, .int .i64 tl, .int .i64 th] := hs
              have r0 := hs.cell 0 (v := .int .i64 dl) rfl
              have r1 := hs.cell 1 (v := .int .i64 dh) rfl
              have rl := hs.lt
              have HS := Lib.hid hs
              have D28 := Lib.hid d28
              have D30 := Lib.hid d30
              have HLL := Lib.hid hL
              clear hs hd hcl hL d28 d30
              go_wp2
              exact ⟨rfl, ⟨y, rfl⟩, by first | (rw [show upd L 1 28 = L 28 from rfl, D28.out, show upd L 1 30 = L 30 from rfl, D30.out]; exact HS.out) | exact HS.out⟩
            rw [e_1]
            go_simp
            with_reducible refine hK _ ?_
            clear hK K
            refine lx_next 13 (by rfl) (by decide) ?_
            dsimp only [List.take, List.drop]
            repeat (go_big_quiet_step (first | with_reducible refine Calls.lat hT (HW1.out _) | with_reducible refine Calls.lat hT (HW2.out _)))
            refine wpQuiet_nil ?_
            refine lx_loud (by rfl) (by kernel_rfl) ?_ (fun K hK => ?_)
            · intro L w4 hL hd hcl hC hs
              obtain ⟨y, rfl⟩ := hC
              have d28 := hcl.off hL 40 28 (by kernel_rfl)
              have d30 := hcl.off hL 40 30 (by kernel_rfl)
              rw [d28, d30] at hs
              have hs : Blk y.world k5 #[.int .i64 dl, .int .i64 dh, .int .i64 tl, .int .i64 th] := hs
              have r0 := hs.cell 2 (v := .int .i64 tl) rfl
              have r1 := hs.cell 3 (v := .int .i64 th) rfl
              have rl := hs.lt
              have HS := Lib.hid hs
              have D28 := Lib.hid d28
              have D30 := Lib.hid d30
              have HLL := Lib.hid hL
              clear hs hd hcl hL d28 d30
              go_wp2
              exact ⟨rfl, ⟨y, rfl⟩, by first | (rw [show upd L 15 28 = L 28 from rfl, D28.out, show upd L 15 30 = L 30 from rfl, D30.out]; exact HS.out) | exact HS.out⟩
            rw [e_15]
            go_simp
            with_reducible refine hK _ ?_
            clear hK K
            refine lx_next 12 (by rfl) (by decide) ?_
            dsimp only [List.take, List.drop]
            repeat (go_big_quiet_step (first | with_reducible refine Calls.lat hT (HW1.out _) | with_reducible refine Calls.lat hT (HW2.out _)))
            refine wpQuiet_nil ?_
            refine lx_loud (by rfl) (by kernel_rfl) ?_ (fun K hK => ?_)
            · intro L w4 hL hd hcl hC hs
              obtain ⟨y, rfl⟩ := hC
              have d30 := hcl.off hL 40 30 (by kernel_rfl)
              rw [hL, d30] at hs
              have hs : Blk y.world k5 #[.int .i64 dl, .int .i64 dh, .int .i64 tl, .int .i64 th] := hs
              have r0 := hs.cell 0 (v := .int .i64 dl) rfl
              have r1 := hs.cell 1 (v := .int .i64 dh) rfl
              have rf0 := hs.frozen 0
              have rf1 := hs.frozen 1
              have rl := hs.lt
              have HS := Lib.hid hs
              have D30 := Lib.hid d30
              have HLL := Lib.hid hL
              clear hs hd hcl hL d30
              go_wp2
              have hb0 : Blk _ k5 #[.int .i64 a1, .int .i64 dh, .int .i64 tl, .int .i64 th] := HS.out.set 0 (.int .i64 a1)
              have hb1 : Blk _ k5 #[.int .i64 a1, .int .i64 a2, .int .i64 tl, .int .i64 th] := hb0.set 1 (.int .i64 a2)
              exact ⟨trivial, ⟨y.chgd (((Chg.refl (· = k5) y.world).setCell (.inr rfl) (.int .i64 a1)).setCell (.inr rfl) (.int .i64 a2)) (fun b hb => .inr fun _ => hb), rfl⟩, by first | (rw [show upd L 28 28 = true from rfl, show upd L 28 30 = L 30 from rfl, D30.out]; exact hb1) | exact hb0⟩
            go_simp
            with_reducible refine hK _ ?_
            clear hK K
            refine lx_next 1 (by rfl) (by decide) ?_
            dsimp only [List.take, List.drop]
            repeat (go_big_quiet_step (first | with_reducible refine Calls.lat hT (HW1.out _) | with_reducible refine Calls.lat hT (HW2.out _)))
            refine wpQuiet_nil ?_
            refine lx_loud (by rfl) (by kernel_rfl) ?_ (fun K hK => ?_)
            · intro L w4 hL hd hcl hC hs
              obtain ⟨y, rfl⟩ := hC
              have d28 := hd 28 (by kernel_rfl)
              rw [hL, d28] at hs
              have hs : Blk y.world k5 #[.int .i64 a1, .int .i64 a2, .int .i64 tl, .int .i64 th] := hs
              have r0 := hs.cell 2 (v := .int .i64 tl) rfl
              have r1 := hs.cell 3 (v := .int .i64 th) rfl
              have rf0 := hs.frozen 2
              have rf1 := hs.frozen 3
              have rl := hs.lt
              have HS := Lib.hid hs
              have D28 := Lib.hid d28
              have HLL := Lib.hid hL
              clear hs hd hcl hL d28
              go_wp2
              have hb0 : Blk _ k5 #[.int .i64 a1, .int .i64 a2, .int .i64 a3, .int .i64 th] := HS.out.set 2 (.int .i64 a3)
              have hb1 : Blk _ k5 #[.int .i64 a1, .int .i64 a2, .int .i64 a3, .int .i64 a4] := hb0.set 3 (.int .i64 a4)
              exact ⟨trivial, ⟨y.chgd (((Chg.refl (· = k5) y.world).setCell (.inr rfl) (.int .i64 a3)).setCell (.inr rfl) (.int .i64 a4)) (fun b hb => .inr fun _ => hb), rfl⟩, by first | (rw [show upd L 30 28 = L 28 from rfl, D28.out, show upd L 30 30 = true from rfl]; exact hb1) | exact hb0⟩
            go_simp
            with_reducible refine hK _ ?_
            clear hK K
            refine lx_nil ?_
            intro y hs
            have HT9 : Hid (Blk y.world k5 #[.int .i64 a1, .int .i64 a2, .int .i64 a3, .int .i64 a4]) := Lib.hid hs
            have HCw9 : Hid (Chg (· = k5) w6 y.world) := Lib.hid (y.chg.mono (by rintro q - ⟨_, e⟩; exact e))
            clear hs hu hT hne2 e_1 e_15 r0 r1 r2 rl0 rl1
            generalize y.world = w9 at *
            clear y
            go_wp2
            go_roundw
            case rel => exact ⟨(j + 1) + 1, by omega, by go_num, by rw [HNEW.out]; exact HT9.out, HCH.out.trans HCw9.out⟩
            case measure => simp [intOf]; omega
        · obtain rfl : j = l.length := by omega
          have hb6 := HB6.out
          rw [List.take_of_length_le (Nat.le_refl _)] at hb6
          obtain ⟨⟨dl, dh, tl, th, so⟩, hsx⟩ : ∃ y, spnF l = y := ⟨_, rfl⟩
          rw [hsx] at hb6 HTK
          have HB7 : Hid (Blk w6 k5 #[.int .i64 dl, .int .i64 dh, .int .i64 tl, .int .i64 th]) := Lib.hid hb6
          have hlen : ((ls.take k).map spnF).length = k := by rw [List.length_map, List.length_take, Nat.min_eq_left hk]
          have hox : w6.ownsRow w.heap.size 45 4 fv k (((ls.take k).map spnF).flatMap Ex.four) := by have h := HO.out.ext HX6w.out; unfold OwnX at h; rw [hlen] at h; exact h
          have HOX := Lib.hid (own_chg hox (((Ext.refl w6).alloc (.cells #[.int .i64 dl, .int .i64 dh, .int .i64 tl, .int .i64 th] 45)).chg fun _ => False) fun _ _ => id)
          have HSZ : Hid (w.heap.size ≤ w6.heap.size) := Lib.hid (Nat.le_trans HX.out.size HX6w.out.size)
          clear hb6 hsx hlen hox HB6
          have x0 := HB7.out.cell 0 (v := .int .i64 dl) rfl
          have x1 := HB7.out.cell 1 (v := .int .i64 dh) rfl
          have x2 := HB7.out.cell 2 (v := .int .i64 tl) rfl
          have x3 := HB7.out.cell 3 (v := .int .i64 th) rfl
          have xl := HB7.out.lt
          go_wp2_with (at_builtin; refine wp_append_from rfl _ _ 34 45 _ 4 32 rfl info_mv (by kernel_rfl) rfl (by decide) w.heap.size fv k _ rfl HOX.out (some ⟨w6.heap.size, 0, none⟩) 1 1 [.int .i64 dl, .int .i64 dh, .int .i64 tl, .int .i64 th] rfl (fun h => by cases h) rfl ?_ ?_ (by omega) (by omega) (by have h1 := HSZ.out; simp; omega) ?_)
          · intro ad had j u hj
            cases had
            match j, hj with
            | 0, hj => cases hj; rw [addr_add]; exact (Blk.new w6 _ _).cell 0 rfl
            | 1, hj => cases hj; rw [addr_add]; exact (Blk.new w6 _ _).cell 1 rfl
            | 2, hj => cases hj; rw [addr_add]; exact (Blk.new w6 _ _).cell 2 rfl
            | 3, hj => cases hj; rw [addr_add]; exact (Blk.new w6 _ _).cell 3 rfl
          · intro u hu
            simp only [List.mem_cons, List.not_mem_nil, or_false] at hu
            rcases hu with rfl | rfl | rfl | rfl <;> rfl
          intro v8 w8 hO8 hg8 hn8
          have HO8 : Hid (OwnX w8 w.heap.size v8 ((ls.take (k + 1)).map spnF)) := Lib.hid (by
            rw [HTK.out]
            show w8.ownsRow _ _ _ _ ((ls.take k).map spnF ++ [_]).length (((ls.take k).map spnF ++ [_]).flatMap Ex.four)
            rw [List.length_append, List.length_map, List.length_take, Nat.min_eq_left hk, List.flatMap_append, List.map_take]
            exact hO8)
          have HX8 : Hid (Ext w w8) := Lib.hid (Chg.to_ext ((HX.out.trans HX6w.out).alloc _) hg8 (fun i hi => (World.ownsRow.lt HOX.out i hi).1))
          clear hO8 hg8 hn8 x0 x1 x2 x3 xl c0 cl
          go_wp2
          go_roundw
          case rel => exact ⟨k + 1, v8, by omega, by first | rfl | simp, by go_num, HO8.out, HX8.out⟩
          case measure => simp [intOf]; omega
    · obtain rfl : k = ls.length := by omega
      have ho := HO.out
      rw [List.take_of_length_le (Nat.le_refl _)] at ho
      have HO2 := Lib.hid ho
      clear ho
      go_wp2
      refine bodyPost_ret (v := fv) (by simp [results, Try.results21, go_sem]) rfl ⟨fv, rfl, HO2.out, HX.out⟩
end Go.Proofs.Ytmopadnkjlodnaa
