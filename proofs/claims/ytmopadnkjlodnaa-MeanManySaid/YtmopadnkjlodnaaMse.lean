/-
  Package mean: search: the smallest visit that is wanted.
-/
import Derived.Test.YtmopadnkjlodnaaRbx
namespace Go.Proofs.Ytmopadnkjlodnaa
open Go.RowKit Go.BigFrame
attribute [local go_sem] Oper.semAt_some Later.cell Later.frozen Lat.cell Lat.frozen NoX
/-- Which visit is wanted. -/
structure Wt where
  g : Gl
  darts : Int
  tried : Int
def Wt.cells (x : Wt) : Array Value := #[.int .i64 x.g.score, .bool x.g.wins, .int .i64 x.darts, .int .i64 x.tried]
section
variable (gin gout : Int) (beds : List Int) (start : Sd) (wt : Wt)
def stpE (n : Nw) (x : Int) : Int := (hitS gin gout n.left n.inn x).2.2
def aftS (n : Nw) (x : Int) : Sd := if stpE gin gout n x = 2 then start else ⟨(hitS gin gout n.left n.inn x).1, (hitS gin gout n.left n.inn x).2.1⟩
/-- Whether a dart is the last one of a visit that is wanted. -/
def hasB (n : Nw) (len : Nat) (x : Int) : Bool :=
  decide ((len : Int) + 1 = wt.darts) && (decide ((⟨start.left - (aftS gin gout start n x).left, stpE gin gout n x == 1⟩ : Gl) = wt.g) && ((decide (wt.tried < 0) || decide (triN gin gout beds n = wt.tried)) && (!(stpE gin gout n x == 0) || decide (len + 1 = 3))))
def srcB (rec : Nw → List Int → Option (List Int)) (n : Nw) (first : List Int) (x : Int) : Option (List Int) :=
  if hasB gin gout beds start wt n first.length x = true then some (first ++ [x])
  else if decide ((first.length : Int) + 1 = wt.darts) = true ∨ stpE gin gout n x ≠ 0 then none
  else rec ⟨(aftS gin gout start n x).left, (aftS gin gout start n x).inn, triN gin gout beds n⟩ (first ++ [x])
/-- The smallest visit that is wanted, of so many more darts. -/
def srcF : Nat → Nw → List Int → Option (List Int)
  | 0, _, _ => none
  | d + 1, n, first => (0 :: beds).findSome? (srcB gin gout beds start wt (srcF d) n first)
end
theorem undef_case {α : Prop} {b : Bool} (h : some undef = some (Value.bool b)) : α := by simp [undef] at h
theorem hasB_of {gin gout : Int} {beds : List Int} {start : Sd} {wt : Wt} {n : Nw} {len : Nat} {x aL E tri : Int} {aI : Bool} (hE : stpE gin gout n x = E) (hA : aftS gin gout start n x = ⟨aL, aI⟩) (hT : triN gin gout beds n = tri) :
    hasB gin gout beds start wt n len x = (((len : Int) + 1 == wt.darts) && (decide ((⟨start.left - aL, E == 1⟩ : Gl) = wt.g) && ((decide (wt.tried < 0) || (tri == wt.tried)) && (!(E == 0) || decide (len + 1 = 3))))) := by
  unfold hasB
  rw [hE, hA, hT]
  rfl
theorem srcB_some {gin gout : Int} {beds : List Int} {start : Sd} {wt : Wt} {rec : Nw → List Int → Option (List Int)} {n : Nw} {first : List Int} {x : Int} (h : hasB gin gout beds start wt n first.length x = true) : srcB gin gout beds start wt rec n first x = some (first ++ [x]) := by
  unfold srcB
  rw [if_pos h]
theorem srcB_none {gin gout : Int} {beds : List Int} {start : Sd} {wt : Wt} {rec : Nw → List Int → Option (List Int)} {n : Nw} {first : List Int} {x : Int} (h : hasB gin gout beds start wt n first.length x = false) (h2 : ((first.length : Int) + 1 == wt.darts) = true ∨ stpE gin gout n x ≠ 0) : srcB gin gout beds start wt rec n first x = none := by
  unfold srcB
  rw [h, if_neg (by simp)]
  exact if_pos h2
theorem srcB_rec {gin gout : Int} {beds : List Int} {start : Sd} {wt : Wt} {rec : Nw → List Int → Option (List Int)} {n : Nw} {first : List Int} {x aL tri : Int} {aI : Bool} (hA : aftS gin gout start n x = ⟨aL, aI⟩) (hT : triN gin gout beds n = tri) (h : ((first.length : Int) + 1 == wt.darts) = false) (h2 : stpE gin gout n x = 0) : srcB gin gout beds start wt rec n first x = rec ⟨aL, aI, tri⟩ (first ++ [x]) := by
  have h0 : hasB gin gout beds start wt n first.length x = false := by
    rw [hasB_of rfl hA hT, h]
    rfl
  unfold srcB
  rw [h0, if_neg (by simp), if_neg (by
    rintro (e | e)
    · have e' : ((first.length : Int) + 1 == wt.darts) = true := e
      rw [h] at e'
      cases e'
    · exact e h2), hA, hT]
structure SrcI (step : Int → Option (List Int)) (w2 : World) (pre : List Int) (W : World) : Prop where
  no : pre.findSome? step = none
  ext : Ext w2 W
structure SrcX (step : Int → Option (List Int)) (k10 : Nat) (w2 : World) (base : Nat) (c : Code) (pre : List Int) (W : World) : Prop where
  c : c = .ret
  ex : ∃ a m way, pre.findSome? step = some way ∧ Blk W k10 #[.slice a way.length m] ∧ Blk W (k10 + 1) #[.bool true] ∧ OwnD W base (.slice a way.length m) way
  chg : Chg (fun k => k = k10 ∨ k = k10 + 1) w2 W
theorem SrcI.abc {step : Int → Option (List Int)} {w2 : World} : AbC w2.heap.size (2 + 0) (SrcI step w2) := by
  rintro pre A B row ⟨h1, h2⟩ hg hr
  exact ⟨h1, Chg.to_ext h2 (grown_chg hg) (fun i e => (hr i e).1)⟩
theorem SrcX.abc {step : Int → Option (List Int)} {k10 : Nat} {w2 : World} {base : Nat} (h1 : k10 + 1 < w2.heap.size) (h2 : w2.heap.size + 2 ≤ base) (c : Code) : AbC w2.heap.size (2 + 0) (SrcX step k10 w2 base c) := by
  rintro pre A B row ⟨e0, ⟨a, m, way, a0, a1, a2, a3⟩, hc⟩ hg hr
  have hx := grown_chg hg
  refine ⟨e0, ⟨a, m, way, a0, a1.chg hx ?_, a2.chg hx ?_, own_chg a3 hx ?_⟩, chgm_grown hc hg (fun r e => (hr r e).1)⟩
  · intro e; have := hr _ e; omega
  · intro e; have := hr _ e; omega
  · intro k hk e
    have := (World.ownsRow.lt a3 k hk).1
    have := hr k e
    omega
/-- What search answers. -/
def SrcA (r : Option (List Int)) (base : Nat) (e : Ending) (W : World) : Prop := match r with
  | none => e = .returned (.tuple #[.slice none 0 0, .bool false])
  | some way => ∃ a m, e = .returned (.tuple #[.slice a way.length m, .bool true]) ∧ OwnD W base (.slice a way.length m) way
theorem two_out {w : World} {b : Nat} {v0 v1 : Value} (h0 : Blk w b #[v0]) (h1 : Blk w (b + 1) #[v1]) (x0 x1 : Value) :
    Blk ((w.setCell ⟨b, 0, none⟩ x0).setCell ⟨b + 1, 0, none⟩ x1) b #[x0] ∧ Blk ((w.setCell ⟨b, 0, none⟩ x0).setCell ⟨b + 1, 0, none⟩ x1) (b + 1) #[x1] ∧ Chg (fun k => k = b ∨ k = b + 1) w ((w.setCell ⟨b, 0, none⟩ x0).setCell ⟨b + 1, 0, none⟩ x1) :=
  ⟨(h0.set 0 x0).other (by simp) x1, (h1.other (by simp) x0).set 0 x1, ((Chg.refl _ w).setCell (.inr (.inl rfl)) x0).setCell (.inr (.inr rfl)) x1⟩
theorem src_snoc {step : Int → Option (List Int)} {pre : List Int} {x : Int} (h : pre.findSome? step = none) : (pre ++ [x]).findSome? step = step x := by
  rw [List.findSome?_append, h]
  cases hx : step x <;> simp [hx]
set_option maxRecDepth 100000 in
set_option maxHeartbeats 8000000 in
theorem mean_search (start0 gin gout : Int) (beds : List Int) (start : Sd) (wt : Wt) (ba : Option Addr) (bc kb bf : Nat) (hl : beds.length ≤ 100) (hB : bedsB beds = true) (hs : 0 ≤ start.left ∧ start.left ≤ 2000) (hwd : wt.darts ≤ 100) : ∀ (d : Nat) (n : Nw) (first : List Int) (fa : Option Addr) (fc : Nat) (w : World), (first.length : Int) + d = wt.darts → 0 < d →
    (0 ≤ n.left ∧ n.left ≤ start.left) → (0 ≤ n.tried ∧ n.tried + d ≤ 1000) → Blk w kb #[.int .i64 start0, .int .i64 gin, .int .i64 gout, .slice ba beds.length bc, .map (some bf)] → RdI S0 w (.slice ba beds.length bc) beds → RdI S0 w (.slice fa first.length fc) first →
    Calls Try.prog 59 #[.pointer (some ⟨kb, 0, none⟩), start.agg, n.agg, .slice fa first.length fc, .agg wt.cells] w fun e w' => SrcA (srcF gin gout beds start wt d n first) w.heap.size e w' ∧ Ext w w'
  | 0, _, _, _, _, _, _, h0, _, _, _, _, _ => absurd h0 (by omega)
  | d + 1, n, first, fa, fc, w, hfd, _, hn, ht, hb, hR, hF => by
    have IH := Lib.hid (mean_search start0 gin gout beds start wt ba bc kb bf hl hB hs hwd d)
    obtain ⟨step, hst⟩ : ∃ y, srcB gin gout beds start wt (srcF gin gout beds start wt d) n first = y := ⟨_, rfl⟩
    have HRES : Hid (srcF gin gout beds start wt (d + 1) n first = (0 :: beds).findSome? step) := Lib.hid (by rw [← hst]; rfl)
    obtain ⟨res, hres⟩ : ∃ y, srcF gin gout beds start wt (d + 1) n first = y := ⟨_, rfl⟩
    rw [hres]
    rw [hres] at HRES
    refine (callsIn_wide (n := 8)).1 ?_
    have HST := Lib.hid hst
    have HL := Lib.hid hl
    have HBD := Lib.hid hB
    have HSB := Lib.hid hs
    have HWD := Lib.hid hwd
    have HFD := Lib.hid hfd
    have HN := Lib.hid hn
    have HT := Lib.hid ht
    have HB := Lib.hid hb
    have HR := Lib.hid hR
    have HF := Lib.hid hF
    obtain ⟨sl, si⟩ := start
    obtain ⟨nl, ni, nt⟩ := n
    obtain ⟨⟨gs, gw⟩, wd, wtr⟩ := wt
    unfold Sd.agg Nw.agg Wt.cells
    simp only
    clear hst hl hB hs hwd hfd hn ht hb hR hF hres
    refine callsIn_of_wp_marks Try.func59 rfl trivial ?_ rfl
    simp only [Try.ntmps59, List.size_toArray, List.length_cons, List.length_nil, Nat.reduceAdd, Nat.reduceSub, Array.replicate_succ, Array.replicate_zero, List.push_toArray, List.append_toArray, List.nil_append, List.cons_append]
    gi_upto_region 1 with fail
    generalize hw1 : World.alloc (World.alloc (World.alloc (World.alloc (World.alloc (World.alloc (World.alloc w _) _) _) _) _) _) _ = w1
    obtain ⟨B, hBB⟩ : ∃ y, y = w.heap.size := ⟨_, rfl⟩
    rw [← hBB]
    have hx1 : Ext w w1 := by rw [← hw1]; exact (((((((Ext.refl w).alloc _).alloc _).alloc _).alloc _).alloc _).alloc _).alloc _
    have K5 : Hid (Blk w1 B #[.pointer (some ⟨kb, 0, none⟩)]) := Lib.hid (by rw [← hw1, hBB]; exact ((((((Blk.new w _ _).alloc _).alloc _).alloc _).alloc _).alloc _).alloc _)
    have K6 : Hid (Blk w1 (B + 1) #[.int .i64 sl, .bool si]) := Lib.hid (by rw [← hw1]; exact (((((Blk.at _ (by simp [hBB])).alloc _).alloc _).alloc _).alloc _).alloc _)
    have K7 : Hid (Blk w1 (B + 1 + 1) #[.int .i64 nl, .bool ni, .int .i64 nt]) := Lib.hid (by rw [← hw1]; exact ((((Blk.at _ (by simp [hBB])).alloc _).alloc _).alloc _).alloc _)
    have K8 : Hid (Blk w1 (B + 1 + 1 + 1) #[.slice fa first.length fc]) := Lib.hid (by rw [← hw1]; exact (((Blk.at _ (by simp [hBB])).alloc _).alloc _).alloc _)
    have K9 : Hid (Blk w1 (B + 1 + 1 + 1 + 1) #[.int .i64 gs, .bool gw, .int .i64 wd, .int .i64 wtr]) := Lib.hid (by rw [← hw1]; exact ((Blk.at _ (by simp [hBB])).alloc _).alloc _)
    have K10 : Hid (Blk w1 (B + 1 + 1 + 1 + 1 + 1) #[.slice none 0 0]) := Lib.hid (by rw [← hw1]; exact (Blk.at _ (by simp [hBB])).alloc _)
    have K11 : Hid (Blk w1 (B + 1 + 1 + 1 + 1 + 1 + 1) #[.bool false]) := Lib.hid (by rw [← hw1]; exact Blk.at _ (by simp [hBB]))
    have HX1 := Lib.hid hx1
    have HBB := Lib.hid hBB
    clear hw1 hx1 hBB
    have HB1 := Lib.hid (HB.out.ext HX1.out)
    have HR1 := Lib.hid (HR.out.ext HX1.out)
    have hfi : 0 ≤ finI gin gout beds nl ni ∧ finI gin gout beds nl ni ≤ 1 := by unfold finI; split <;> decide
    have hwr : wrap64 (nt + finI gin gout beds nl ni) = triN gin gout beds ⟨nl, ni, nt⟩ := by
      have hT : 0 ≤ nt ∧ nt + ((d + 1 : Nat) : Int) ≤ 1000 := HT.out
      exact wrap64_in' ⟨by omega, by omega⟩
    have hsane : Sane nl beds := fun b hb => by
      have h1 := beds_bounds HBD.out (.inr hb)
      have h2 := HN.out
      have h3 := HSB.out
      exact ⟨h1.1, by unfold I64; simp only at h2 h3; omega⟩
    have HISF : Hid (∀ W, Ext w W → Calls Try.prog 80 #[.agg #[.int .i64 start0, .int .i64 gin, .int .i64 gout, .slice ba beds.length bc], .agg #[.int .i64 nl, .bool ni]] W fun e w' => e = .returned (.int .i64 (finI gin gout beds nl ni)) ∧ Ext W w') := Lib.hid (fun W hx => mean_isFinish start0 gin gout nl ni beds ba bc W (rd_cells (HR.out.ext hx)).2 HR.out.len hsane)
    obtain ⟨tri, htri⟩ : ∃ y, triN gin gout beds ⟨nl, ni, nt⟩ = y := ⟨_, rfl⟩
    rw [htri] at hwr
    have HTRI := Lib.hid htri
    have HFI := Lib.hid hfi
    have HTB : Hid (0 ≤ tri ∧ tri ≤ nt + 1) := Lib.hid (by
      have hT : 0 ≤ nt ∧ nt + ((d + 1 : Nat) : Int) ≤ 1000 := HT.out
      have h2 : nt + finI gin gout beds nl ni = tri := htri
      omega)
    clear hsane hfi htri
    generalize finI gin gout beds nl ni = fi at *
    have m0 : ∀ y : Lat NoX w1, y.world.cell? ⟨B, 0, none⟩ = some (.pointer (some ⟨kb, 0, none⟩)) := fun y => (K5.out.ext (Lat.ext0 y)).cell 0 rfl
    have ml := K5.out.lt
    have n0 : ∀ y : Lat NoX w1, y.world.cell? ⟨(B + 1 + 1), 0, none⟩ = some (.int .i64 nl) := fun y => (K7.out.ext (Lat.ext0 y)).cell 0 rfl
    have n1 : ∀ y : Lat NoX w1, y.world.cell? ⟨(B + 1 + 1), 1, none⟩ = some (.bool ni) := fun y => (K7.out.ext (Lat.ext0 y)).cell 1 rfl
    have n2 : ∀ y : Lat NoX w1, y.world.cell? ⟨(B + 1 + 1), 2, none⟩ = some (.int .i64 nt) := fun y => (K7.out.ext (Lat.ext0 y)).cell 2 rfl
    have nl := K7.out.lt
    have q0 : ∀ y : Lat NoX w1, y.world.cell? ⟨kb, 0, none⟩ = some (.int .i64 start0) := fun y => (HB1.out.ext (Lat.ext0 y)).cell 0 rfl
    have q1 : ∀ y : Lat NoX w1, y.world.cell? ⟨kb, 1, none⟩ = some (.int .i64 gin) := fun y => (HB1.out.ext (Lat.ext0 y)).cell 1 rfl
    have q2 : ∀ y : Lat NoX w1, y.world.cell? ⟨kb, 2, none⟩ = some (.int .i64 gout) := fun y => (HB1.out.ext (Lat.ext0 y)).cell 2 rfl
    have q3 : ∀ y : Lat NoX w1, y.world.cell? ⟨kb, 3, none⟩ = some (.slice ba beds.length bc) := fun y => (HB1.out.ext (Lat.ext0 y)).cell 3 rfl
    have q4 : ∀ y : Lat NoX w1, y.world.cell? ⟨kb, 4, none⟩ = some (.map (some bf)) := fun y => (HB1.out.ext (Lat.ext0 y)).cell 4 rfl
    have ql := HB1.out.lt
    gi_upto_region 1 with fail
    refine wpIn_lat (by kernel_rfl) NoX (boxN 10 11) (BoxR 10) (BoxG 10 11 #[.int .i64 0] #[.int .i64 tri] w1.heap.size) (by kernel_rfl)
      (fun k hk => by
        simp only [boxN, Bool.or_eq_true, beq_iff_eq] at hk
        rcases hk with rfl | rfl <;> decide)
      (fun L L' u w' h hg => hg.congr (h 10 rfl) (h 11 rfl)) (fun L u a b h hx => h.ext hx) (fun _ => .pointer (some ⟨0, 0, none⟩)) (fun k _ => ⟨0, fun _ => rfl⟩) ⟨fun h => (by cases h)⟩ ?_
    intro T hT hne2 u hu
    obtain ⟨k12, e_box⟩ := hu 10 rfl
    replace e_box := e_box rfl
    refine lx_next 10 (by rfl) (by decide) ?_
    dsimp only [List.take, List.drop]
    repeat (go_big_quiet_step (with_reducible refine Calls.lat hT (HISF.out _ (HX1.out.trans (Lat.ext0 _)))))
    refine wpQuiet_nil ?_
    refine lx_loud (by rfl) (by kernel_rfl) ?_ (fun K hK => ?_)
    · intro L w4 hL hd hcl hC hs
      obtain ⟨y, rfl⟩ := hC
      have h6 := hcl.off hL 40 11 (by kernel_rfl)
      have hy := y.size
      clear hs hd hcl
      go_wp2
      exact ⟨⟨_, fun _ => rfl⟩, ⟨y.ext ((Ext.refl _).alloc _), rfl⟩, ⟨fun _ => ⟨_, rfl, hy, by rw [show upd L 10 11 = L 11 from rfl, h6]; exact Blk.new _ _ _⟩⟩⟩
    rw [e_box]
    go_simp
    with_reducible refine hK _ ?_
    clear hK K
    refine lx_loud (by rfl) (by kernel_rfl) ?_ (fun K hK => ?_)
    · intro L w4 hL hd hcl hC hs
      obtain ⟨y, rfl⟩ := hC
      obtain ⟨k, ek, hk, hbk⟩ := hs.at_ (hd 10 (by kernel_rfl))
      obtain rfl : k12 = k := by have h := e_box.symm.trans ek; cases h; rfl
      rw [hL] at hbk
      have hbk : Blk y.world k12 #[.int .i64 0] := hbk
      have r0 := hbk.cell 0 (v := .int .i64 0) rfl
      have rf0 := hbk.frozen 0
      have rl := hbk.lt
      have HBK := Lib.hid hbk
      have HEK := Lib.hid ek
      have HHK := Lib.hid hk
      clear hs hd hcl hbk ek hk
      go_wp2
      refine ⟨⟨0, fun h => absurd h (by decide)⟩, ⟨y.chgd (one_chg (· = k12) y.world (b := k12) rfl _) (fun b hb => .inl (by rw [show b = k12 from hb]; exact HHK.out)), rfl⟩, ⟨fun _ => ⟨k12, HEK.out, HHK.out, one_set HBK.out _⟩⟩⟩
    go_simp
    with_reducible refine hK _ ?_
    clear hK K
    refine lx_nil ?_
    intro y hs
    obtain ⟨kk, ek, hk, hbk⟩ := hs.at_ rfl
    obtain rfl : k12 = kk := by have h := e_box.symm.trans ek; cases h; rfl
    have K12 : Hid (Blk y.world k12 #[.int .i64 tri]) := Lib.hid hbk
    have Hk12 : Hid (w1.heap.size ≤ k12) := Lib.hid hk
    have HXw2 := Lib.hid (Lat.ext0 y)
    clear hs hbk hk ek e_box hu hT hne2 m0 ml n0 n1 n2 nl q0 q1 q2 q3 q4 ql
    generalize y.world = w2 at *
    clear y
    have HX2 := Lib.hid (HX1.out.trans HXw2.out)
    have m0 := (K5.out.ext HXw2.out).cell 0 (v := .pointer (some ⟨kb, 0, none⟩)) rfl
    have ml := (K5.out.ext HXw2.out).lt
    have q0 := (HB1.out.ext HXw2.out).cell 0 (v := .int .i64 start0) rfl
    have q1 := (HB1.out.ext HXw2.out).cell 1 (v := .int .i64 gin) rfl
    have q2 := (HB1.out.ext HXw2.out).cell 2 (v := .int .i64 gout) rfl
    have q3 := (HB1.out.ext HXw2.out).cell 3 (v := .slice ba beds.length bc) rfl
    have q4 := (HB1.out.ext HXw2.out).cell 4 (v := .map (some bf)) rfl
    have ql := (HB1.out.ext HXw2.out).lt
    gi_wp2
    clear m0 ml q0 q1 q2 q3 q4 ql
    have HSEQ := Lib.hid (all_seqW 7 start0 gin gout beds ba bc w2 (HR.out.ext HX2.out) (by have := HL.out; omega))
    have hsz : B + 1 + 1 + 1 + 1 + 1 + 1 < w2.heap.size := Nat.lt_of_lt_of_le K11.out.lt HXw2.out.size
    have HSZ := Lib.hid hsz
    clear hsz
    refine wpIn_rangeFunc_w (α := Int) (by decide) (gf := 81) (fb := #[.agg #[.int .i64 start0, .int .i64 gin, .int .i64 gout, .slice ba beds.length bc]]) (lb := #[]) rfl enters_all HSEQ.out Kc.trans (fun W l o o' _ h ho _ => Kc.put _ W l o o' h ho) (fun _ => rfl)
      (SrcI step w2) (SrcX step (B + 1 + 1 + 1 + 1 + 1) w2 (w2.heap.size + 2)) SrcI.abc (SrcX.abc HSZ.out (Nat.le_refl _))
      ?hV ⟨rfl, Ext.refl _⟩ (fun x a' _ => a' = { tmps := #[.pointer (some ⟨kb, 0, none⟩), .agg #[.int .i64 sl, .bool si], .agg #[.int .i64 nl, .bool ni, .int .i64 nt], .slice fa first.length fc, .agg #[.int .i64 gs, .bool gw, .int .i64 wd, .int .i64 wtr], .pointer (some ⟨B, 0, none⟩), .pointer (some ⟨B + 1, 0, none⟩), .pointer (some ⟨B + 1 + 1, 0, none⟩), .pointer (some ⟨B + 1 + 1 + 1, 0, none⟩), .pointer (some ⟨B + 1 + 1 + 1 + 1, 0, none⟩), .pointer (some ⟨B + 1 + 1 + 1 + 1 + 1, 0, none⟩), .pointer (some ⟨B + 1 + 1 + 1 + 1 + 1 + 1, 0, none⟩), .pointer (some ⟨k12, 0, none⟩), .int .i64 x, undef, undef, undef, undef, undef, undef, undef, .pointer (some ⟨B + 1 + 1, 2, none⟩), .int .i64 nt, .pointer (some ⟨kb, 0, none⟩), .pointer (some ⟨kb, 0, none⟩), .pointer (some ⟨kb, 0, none⟩), .agg #[.int .i64 start0, .int .i64 gin, .int .i64 gout, .slice ba beds.length bc], .pointer (some ⟨B + 1 + 1, 0, none⟩), .agg #[.int .i64 nl, .bool ni], .int .i64 fi, .int .i64 tri, .pointer (some ⟨kb, 0, none⟩), .pointer (some ⟨kb, 0, none⟩), .pointer (some ⟨kb, 0, none⟩), .agg #[.int .i64 start0, .int .i64 gin, .int .i64 gout, .slice ba beds.length bc], .func (.func 81) #[.agg #[.int .i64 start0, .int .i64 gin, .int .i64 gout, .slice ba beds.length bc]] #[], .int .i64 x, undef, undef, undef, undef, undef, undef, undef, undef, undef, undef, undef, undef, undef, undef, undef, undef, undef, undef, undef, undef, undef, undef, undef, undef, undef, undef, undef, undef, undef, undef, undef, undef, undef, undef, undef, undef, undef, undef, undef, undef, undef, undef, undef, undef, undef, undef, undef, undef, undef, undef, undef, undef, undef, undef, undef, undef, undef, undef, undef, undef, undef, undef, undef, undef, undef, undef, undef, undef, undef, undef, undef, undef, undef, undef, undef, undef, undef, undef], defers := [] }) ?hAx ?assign ?body ?done ?stop
    case hV =>
      rintro pre x u A C row ⟨h1, h2⟩ hg hr
      exact ⟨h1, Nat.le_trans h2 hg.size⟩
    case hAx => intro x a' u A B row h _ _; exact h
    case assign =>
      intro l pre x W K hi hv hK
      have HKK := Lib.hid (hK _ W (KeepsFrom.refl _ _) (Kc.refl _ _) hi hv rfl)
      clear hK hi hv
      dsimp only
      gi_wp2
      exact HKK.out
    case body =>
      rintro l pre x a' W ⟨hno, hext⟩ hv rfl
      obtain ⟨⟨k, hk, hpre, hx⟩, hsz⟩ := hv
      have HNO := Lib.hid hno
      have HXW := Lib.hid hext
      have HK := Lib.hid (And.intro hk (And.intro hpre hx))
      have HWS := Lib.hid hsz
      clear hno hext hk hpre hx hsz
      dsimp only
      have hxm : x = 0 ∨ x ∈ beds := List.mem_cons.1 (List.mem_of_getElem? HK.out.2.2)
      have hxb := beds_bounds HBD.out hxm
      have hNL : 0 ≤ nl ∧ nl ≤ sl := HN.out
      have hSL : 0 ≤ sl ∧ sl ≤ 2000 := HSB.out
      have hhb := hit_bounds (gin := gin) (gout := gout) (inn := ni) hxb.2.1 hNL.1
      have HHIT := Lib.hid (fun W' => mean_hit start0 gin gout nl ni (.slice ba beds.length bc) x W' hxb.1 (by unfold I64; omega) ⟨_, _, _, rfl⟩)
      unfold hitV at HHIT
      have hE : stpE gin gout ⟨nl, ni, nt⟩ x = (hitS gin gout nl ni x).2.2 := rfl
      have hA : aftS gin gout ⟨sl, si⟩ ⟨nl, ni, nt⟩ x = if stpE gin gout ⟨nl, ni, nt⟩ x = 2 then ⟨sl, si⟩ else ⟨(hitS gin gout nl ni x).1, (hitS gin gout nl ni x).2.1⟩ := rfl
      have hEr : (hitS gin gout nl ni x).2.2 = 0 ∨ (hitS gin gout nl ni x).2.2 = 1 ∨ (hitS gin gout nl ni x).2.2 = 2 := by
        unfold hitS
        repeat' split
        all_goals simp
      generalize (hitS gin gout nl ni x) = H at *
      obtain ⟨hL, hI, E⟩ := H
      simp only at HHIT hE hA hEr hhb
      have HHB := Lib.hid (And.intro hNL (And.intro hSL hhb))
      have HE := Lib.hid hE
      have HA := Lib.hid hA
      have HER := Lib.hid hEr
      clear hxm hxb hNL hSL hhb hE hA hEr
      have m0 : ∀ y : Lat NoX W, y.world.cell? ⟨B, 0, none⟩ = some (.pointer (some ⟨kb, 0, none⟩)) := fun y => (((K5.out.ext HXw2.out).ext HXW.out).ext (Lat.ext0 y)).cell 0 rfl
      have ml := ((K5.out.ext HXw2.out).ext HXW.out).lt
      have n0 : ∀ y : Lat NoX W, y.world.cell? ⟨(B + 1 + 1), 0, none⟩ = some (.int .i64 nl) := fun y => (((K7.out.ext HXw2.out).ext HXW.out).ext (Lat.ext0 y)).cell 0 rfl
      have n1 : ∀ y : Lat NoX W, y.world.cell? ⟨(B + 1 + 1), 1, none⟩ = some (.bool ni) := fun y => (((K7.out.ext HXw2.out).ext HXW.out).ext (Lat.ext0 y)).cell 1 rfl
      have n2 : ∀ y : Lat NoX W, y.world.cell? ⟨(B + 1 + 1), 2, none⟩ = some (.int .i64 nt) := fun y => (((K7.out.ext HXw2.out).ext HXW.out).ext (Lat.ext0 y)).cell 2 rfl
      have nl := ((K7.out.ext HXw2.out).ext HXW.out).lt
      have q0 : ∀ y : Lat NoX W, y.world.cell? ⟨kb, 0, none⟩ = some (.int .i64 start0) := fun y => (((HB1.out.ext HXw2.out).ext HXW.out).ext (Lat.ext0 y)).cell 0 rfl
      have q1 : ∀ y : Lat NoX W, y.world.cell? ⟨kb, 1, none⟩ = some (.int .i64 gin) := fun y => (((HB1.out.ext HXw2.out).ext HXW.out).ext (Lat.ext0 y)).cell 1 rfl
      have q2 : ∀ y : Lat NoX W, y.world.cell? ⟨kb, 2, none⟩ = some (.int .i64 gout) := fun y => (((HB1.out.ext HXw2.out).ext HXW.out).ext (Lat.ext0 y)).cell 2 rfl
      have q3 : ∀ y : Lat NoX W, y.world.cell? ⟨kb, 3, none⟩ = some (.slice ba beds.length bc) := fun y => (((HB1.out.ext HXw2.out).ext HXW.out).ext (Lat.ext0 y)).cell 3 rfl
      have q4 : ∀ y : Lat NoX W, y.world.cell? ⟨kb, 4, none⟩ = some (.map (some bf)) := fun y => (((HB1.out.ext HXw2.out).ext HXW.out).ext (Lat.ext0 y)).cell 4 rfl
      have ql := ((HB1.out.ext HXw2.out).ext HXW.out).lt
      gi_upto_region 4 with fail
      refine wpIn_lat_r l (by kernel_rfl) (by kernel_rfl) NoX (boxN 11 12) (BoxR 11) (BoxG 11 12 #[.int .i64 0, .bool false] #[.int .i64 hL, .bool hI] W.heap.size) (by kernel_rfl)
        (fun k hk => by
          simp only [boxN, Bool.or_eq_true, beq_iff_eq] at hk
          rcases hk with rfl | rfl <;> decide)
        (fun L L' u w' h hg => hg.congr (h 11 rfl) (h 12 rfl)) (fun L u a b h hx => h.ext hx) (fun _ => .pointer (some ⟨0, 0, none⟩)) (fun k _ => ⟨0, fun _ => rfl⟩) ⟨fun h => (by cases h)⟩ ?_
      intro T hT hne2 u hu
      obtain ⟨k14, e_box⟩ := hu 11 rfl
      replace e_box := e_box rfl
      refine lx_next 11 (by rfl) (by decide) ?_
      dsimp only [List.take, List.drop]
      repeat (go_big_quiet_step (with_reducible refine Calls.lat hT (HHIT.out _)))
      refine wpQuiet_nil ?_
      refine lx_loud (by rfl) (by kernel_rfl) ?_ (fun K hK => ?_)
      · intro L w4 hL hd hcl hC hs
        obtain ⟨y, rfl⟩ := hC
        have h6 := hcl.off hL 40 12 (by kernel_rfl)
        have hy := y.size
        clear hs hd hcl
        go_wp2
        exact ⟨⟨_, fun _ => rfl⟩, ⟨y.ext ((Ext.refl _).alloc _), rfl⟩, ⟨fun _ => ⟨_, rfl, hy, by rw [show upd L 11 12 = L 12 from rfl, h6]; exact Blk.new _ _ _⟩⟩⟩
      rw [e_box]
      go_simp
      with_reducible refine hK _ ?_
      clear hK K
      refine lx_loud (by rfl) (by kernel_rfl) ?_ (fun K hK => ?_)
      · intro L w4 hL hd hcl hC hs
        obtain ⟨y, rfl⟩ := hC
        obtain ⟨k, ek, hk, hbk⟩ := hs.at_ (hd 11 (by kernel_rfl))
        obtain rfl : k14 = k := by have h := e_box.symm.trans ek; cases h; rfl
        rw [hL] at hbk
        have hbk : Blk y.world k14 #[.int .i64 0, .bool false] := hbk
        have r0 := hbk.cell 0 (v := .int .i64 0) rfl
        have rf0 := hbk.frozen 0
        have r1 := hbk.cell 1 (v := .bool false) rfl
        have rf1 := hbk.frozen 1
        have rl := hbk.lt
        have HBK := Lib.hid hbk
        have HEK := Lib.hid ek
        have HHK := Lib.hid hk
        clear hs hd hcl hbk ek hk
        go_wp2
        refine ⟨⟨0, fun h => absurd h (by decide)⟩, ⟨y.chgd (two_chg (· = k14) y.world (b := k14) rfl _ _) (fun b hb => .inl (by rw [show b = k14 from hb]; exact HHK.out)), rfl⟩, ⟨fun _ => ⟨k14, HEK.out, HHK.out, two_set HBK.out _ _⟩⟩⟩
      go_simp
      with_reducible refine hK _ ?_
      clear hK K
      refine lx_next 1 (by rfl) (by decide) ?_
      dsimp only [List.take, List.drop]
      repeat (go_big_quiet_step (with_reducible refine Calls.lat hT (HHIT.out _)))
      refine wpQuiet_nil ?_
      refine lx_nil ?_
      intro y hs
      obtain ⟨kk, ek, hk, hbk⟩ := hs.at_ rfl
      obtain rfl : k14 = kk := by have h := e_box.symm.trans ek; cases h; rfl
      have K14 : Hid (Blk y.world k14 #[.int .i64 hL, .bool hI]) := Lib.hid hbk
      have Hk14 : Hid (W.heap.size ≤ k14) := Lib.hid hk
      have HXw3 := Lib.hid (Lat.ext0 y)
      clear hs hbk hk ek e_box hu hT hne2 m0 ml n0 n1 n2 nl q0 q1 q2 q3 q4 ql
      generalize y.world = w3 at *
      clear y
      have HX3 := Lib.hid (HXW.out.trans HXw3.out)
      clear HISF HHIT
      rcases HER.out with rfl | rfl | rfl
      · obtain ⟨w4, hw4⟩ : ∃ y, y = w3 := ⟨_, rfl⟩
        rw [← hw4] at K14 HX3 HXw3 ⊢
        have HX4 := Lib.hid HX3.out
        have HWX4 := Lib.hid HXw3.out
        have HAF : Hid (aftS gin gout ⟨sl, si⟩ ⟨nl, ni, nt⟩ x = ⟨hL, hI⟩) := Lib.hid (by rw [HA.out, HE.out]; rfl)
        clear hw4 HA
        have HXT := Lib.hid (HX2.out.trans HX4.out)
        have hw4s : w2.heap.size + 2 ≤ w4.heap.size := by have h1 := HWS.out; have h2 := HXW.out.size; have h3 := K14.out.lt; have h4 := Hk14.out; omega
        have HW4S := Lib.hid hw4s
        clear hw4s
        obtain ⟨fa', fc', efv, fcl, flc, fcm, fnil⟩ := (HF.out.ext HXT.out).cells
        obtain ⟨rfl, rfl⟩ : fa = fa' ∧ fc = fc' := by cases efv; exact ⟨rfl, rfl⟩
        have FAD := Lib.hid (HF.out.addr)
        have FCL := Lib.hid fcl
        have FLC := Lib.hid (And.intro flc (And.intro fcm fnil))
        clear efv fcl flc fcm fnil
        have p0 := ((K8.out.ext HXw2.out).ext HX4.out).cell 0 (v := .slice fa first.length fc) rfl
        have pl := ((K8.out.ext HXw2.out).ext HX4.out).lt
        gi_wp2_with fail
        refine ⟨trivial, CallsIn.inRound l ((callsIn_wide.2 (clip_d fa first.length fc w4 FLC.out.2.2 FLC.out.1 FLC.out.2.1 FAD.out)).mono ?_)⟩
        rintro e w5 ⟨rfl, hx5⟩
        have HX5 := Lib.hid (HX4.out.trans hx5)
        have HWX5 := Lib.hid (HWX4.out.trans hx5)
        have FCL5 := Lib.hid (FCL.out.ext hx5)
        have HW5S := Lib.hid (Nat.le_trans HW4S.out hx5.size)
        have K145 := Lib.hid (K14.out.ext hx5)
        clear hx5 p0 pl
        obtain ⟨i0, hi0, hz0, hz1, hz2⟩ := info_parts info_bed
        have hlen : first.length ≤ 1000 := by have h1 : (first.length : Int) + ((d + 1 : Nat) : Int) = wd := HFD.out; have h2 : wd ≤ 100 := HWD.out; omega
        have HLEN := Lib.hid hlen
        gi_wp2_with (refine wpListIn_append_grows _ rfl _ _ 25 rfl 99 i0 _ 1 8 (by kernel_rfl) hi0 hz0 hz1 hz2 rfl (by decide) fa first.length first.length (first.map (Value.int .i64)) rfl (fun h => ⟨(FLC.out.2.2 h).1, (FLC.out.2.2 h).1⟩) (by simp) (CellsAt.vals (FCL5.out.ext ((Ext.refl w5).alloc _))) ⟨w5.heap.size, 0, none⟩ 1 1 [.int .i64 x] rfl rfl ?_ ?_ (by omega) (by unfold maxLen; omega) (by omega) ?_)
        · intro j u hj
          match j, hj with
          | 0, hj => cases hj; rw [addr_add]; exact (Blk.new w5 _ _).cell 0 rfl
        · intro u hu
          cases hu with
          | head => rfl
          | tail _ h => cases h
        intro v' w6 ho6 hg6
        have ho7 : OwnD w6 (w5.heap.size + 1) v' (first ++ [x]) := by
          show w6.ownsRow _ _ _ _ (first ++ [x]).length ((first ++ [x]).map (Value.int .i64))
          rw [List.length_append, List.map_append]
          exact ho6
        obtain ⟨va, vc, ev⟩ := ho7.shape
        rw [show (first ++ [x]).length = first.length + 1 by simp] at ev
        subst ev
        have HX6 := Lib.hid (HX5.out.trans (((Ext.refl w5).alloc (.cells #[.int .i64 x] 99)).trans (Ext.of_grown hg6)))
        have HX56 := Lib.hid (((Ext.refl w5).alloc (.cells #[.int .i64 x] 99)).trans (Ext.of_grown hg6))
        have HO7 : Hid (OwnD w6 (w2.heap.size + 2) (.slice va (first.length + 1) vc) (first ++ [x])) := Lib.hid (own_mono ho7 (by have := HW5S.out; omega))
        have K146 := Lib.hid (K145.out.ext HX56.out)
        clear hi0 hz0 hz1 hz2 hlen ho6 hg6 ho7
        obtain ⟨LB, hLB⟩ : ∃ b, ((first.length : Int) + 1 == wd) = b := ⟨_, rfl⟩
        have HLB := Lib.hid hLB
        have hwa : wrap64 (sl - hL) = sl - hL := by
          have h := HHB.out
          exact wrap64_in' ⟨by omega, by omega⟩
        have z0 := ((K6.out.ext HXw2.out).ext HX6.out).cell 0 (v := .int .i64 sl) rfl
        have z1 := ((K6.out.ext HXw2.out).ext HX6.out).cell 1 (v := .bool si) rfl
        have zl := ((K6.out.ext HXw2.out).ext HX6.out).lt
        have y0 := K146.out.cell 0 (v := .int .i64 hL) rfl
        have y1 := K146.out.cell 1 (v := .bool hI) rfl
        have yl := K146.out.lt
        have g0 := ((K9.out.ext HXw2.out).ext HX6.out).cell 0 (v := .int .i64 gs) rfl
        have g1 := ((K9.out.ext HXw2.out).ext HX6.out).cell 1 (v := .bool gw) rfl
        have g2 := ((K9.out.ext HXw2.out).ext HX6.out).cell 2 (v := .int .i64 wd) rfl
        have g3 := ((K9.out.ext HXw2.out).ext HX6.out).cell 3 (v := .int .i64 wtr) rfl
        have gl := ((K9.out.ext HXw2.out).ext HX6.out).lt
        have t0 := (K12.out.ext HX6.out).cell 0 (v := .int .i64 tri) rfl
        have tl := (K12.out.ext HX6.out).lt
        gi_upto_region 10 with fail
        clear z0 z1 zl y0 y1 yl g0 g1 g2 g3 gl t0 tl hLB hwa
        obtain ⟨w7, hw7⟩ : ∃ y, y = w6.alloc (.cells #[.int .i64 (sl - hL), .bool false] 121) := ⟨_, rfl⟩
        obtain ⟨k18, hk18⟩ : ∃ y, y = w6.heap.size := ⟨_, rfl⟩
        rw [← hw7, ← hk18]
        have HX67 : Hid (Ext w6 w7) := Lib.hid (by rw [hw7]; exact (Ext.refl w6).alloc _)
        have K18 : Hid (Blk w7 k18 #[.int .i64 (sl - hL), .bool false]) := Lib.hid (by rw [hw7, hk18]; exact Blk.new _ _ _)
        have HX7 := Lib.hid (HX6.out.trans HX67.out)
        have HKF : Hid (KeepsFrom w2.heap.size W w7 ∧ Kc S0 W w7 ∧ Ext w2 w7 ∧ OwnD w7 (w2.heap.size + 2) (.slice va (first.length + 1) vc) (first ++ [x])) := Lib.hid (by
          have hxx : Chg S0 W w7 := (HWX5.out.trans (HX56.out.trans HX67.out)).chg _
          exact ⟨kf_chg hxx (fun _ h => h.elim), Kc.of_chg hxx, HX7.out, HO7.out.ext HX67.out⟩)
        clear hw7 hk18
        obtain ⟨GB, hGB⟩ : ∃ b, decide ((⟨(sl - hL), false⟩ : Gl) = ⟨gs, gw⟩) = b := ⟨_, rfl⟩
        have HGB := Lib.hid hGB
        have hgo : ∀ W', (Op.equalIn 10000 121 (.agg #[.int .i64 (sl - hL), .bool false]) (.agg #[.int .i64 gs, .bool gw])).run Try.prog W' = .ok GB W' := fun W' => by
          rw [← HGB.out]
          exact eqGl 9998 ⟨(sl - hL), false⟩ ⟨gs, gw⟩ W'
        clear hGB
        have HHAS := Lib.hid (hasB_of (wt := ⟨⟨gs, gw⟩, wd, wtr⟩) (len := first.length) HE.out HAF.out HTRI.out)
        have HCONT : Hid (∀ w8, Ext w7 w8 → step x = none → KeepsFrom w2.heap.size W w8 ∧ Kc S0 W w8 ∧ SrcI step w2 (pre ++ [x]) w8) := Lib.hid (fun w8 hx8 h => ⟨HKF.out.1.trans (kf_chg (hx8.chg S0) (fun _ h => h.elim)), HKF.out.2.1.ext hx8, by rw [src_snoc HNO.out]; exact h, HX7.out.trans hx8⟩)
        have HRET : Hid (∀ w8 ra rc way, w7.heap.size ≤ w8.heap.size → Ext w7 w8 → step x = some way → OwnD w8 (w2.heap.size + 2) (.slice ra way.length rc) way → ∀ W9, W9 = (w8.setCell ⟨B + 1 + 1 + 1 + 1 + 1, 0, none⟩ (.slice ra way.length rc)).setCell ⟨B + 1 + 1 + 1 + 1 + 1 + 1, 0, none⟩ (.bool true) → KeepsFrom w2.heap.size W W9 ∧ SrcX step (B + 1 + 1 + 1 + 1 + 1) w2 (w2.heap.size + 2) .ret (pre ++ [x]) W9) := Lib.hid (by
          rintro w8 ra rc way - hx8 hs ho W9 rfl
          obtain ⟨q0, q1, qc⟩ := two_out (((K10.out.ext HXw2.out).ext HX7.out).ext hx8) (((K11.out.ext HXw2.out).ext HX7.out).ext hx8) (.slice ra way.length rc) (.bool true)
          have hz := HSZ.out
          refine ⟨HKF.out.1.trans ((kf_chg (hx8.chg S0) (fun _ h => h.elim)).trans (kf_chg qc (fun k hk => by rcases hk with h | h <;> omega))), rfl, ⟨ra, rc, way, by rw [src_snoc HNO.out]; exact hs, q0, q1, own_chg ho qc (fun k hk e => ?_)⟩, (((HX7.out.trans hx8).chg _).trans qc)⟩
          have := (World.ownsRow.lt ho k hk).1
          rcases e with e | e <;> omega)
        have e0 := K18.out.cell 0 (v := .int .i64 (sl - hL)) rfl
        have e1 := K18.out.cell 1 (v := .bool false) rfl
        have el := K18.out.lt
        have g0 := ((K9.out.ext HXw2.out).ext HX7.out).cell 0 (v := .int .i64 gs) rfl
        have g1 := ((K9.out.ext HXw2.out).ext HX7.out).cell 1 (v := .bool gw) rfl
        have g2 := ((K9.out.ext HXw2.out).ext HX7.out).cell 2 (v := .int .i64 wd) rfl
        have g3 := ((K9.out.ext HXw2.out).ext HX7.out).cell 3 (v := .int .i64 wtr) rfl
        have gl := ((K9.out.ext HXw2.out).ext HX7.out).lt
        have t0 := (K12.out.ext HX7.out).cell 0 (v := .int .i64 tri) rfl
        have tl := (K12.out.ext HX7.out).lt
        have b0 := ((K10.out.ext HXw2.out).ext HX7.out).cell 0 (v := .slice none 0 0) rfl
        have bl := ((K10.out.ext HXw2.out).ext HX7.out).lt
        have bf0 := ((K10.out.ext HXw2.out).ext HX7.out).frozen 0
        have c0 := ((K11.out.ext HXw2.out).ext HX7.out).cell 0 (v := .bool false) rfl
        have cl := ((K11.out.ext HXw2.out).ext HX7.out).lt
        have cf0 := ((K11.out.ext HXw2.out).ext HX7.out).frozen 0
        cases LB
        · have hd0 : 0 < d := by
            have h1 : ((first.length : Int) + 1 == wd) = false := HLB.out
            have h2 : (first.length : Int) + ((d + 1 : Nat) : Int) = wd := HFD.out
            have h3 : ¬ ((first.length : Int) + 1 = wd) := by simpa using h1
            omega
          have HXW7 := Lib.hid (HX2.out.trans HX7.out)
          have hih := IH.out ⟨hL, hI, tri⟩ (first ++ [x]) va vc w7 (by
            have h2 : (first.length : Int) + ((d + 1 : Nat) : Int) = wd := HFD.out
            show (((first ++ [x]).length : Nat) : Int) + _ = wd
            rw [show (first ++ [x]).length = first.length + 1 by simp]
            omega) hd0 (by have h := HHB.out; exact ⟨h.2.2.1, Int.le_trans h.2.2.2 h.1.2⟩) (by
            have h1 := HTB.out
            have h2 : 0 ≤ nt ∧ nt + ((d + 1 : Nat) : Int) ≤ 1000 := HT.out
            exact ⟨h1.1, by show tri + _ ≤ _; omega⟩) (HB.out.ext HXW7.out) (HR.out.ext HXW7.out) (by
            have h1 := HKF.out.2.2.2.rd (S := S0) (fun _ _ h => h)
            rw [show (first ++ [x]).length = first.length + 1 by simp]
            exact h1)
          rw [show (first ++ [x]).length = first.length + 1 by simp] at hih
          unfold Sd.agg Nw.agg Wt.cells at hih
          simp only at hih
          have HIH := Lib.hid hih
          obtain ⟨rs, hrs⟩ : ∃ y, srcF gin gout beds ⟨sl, si⟩ ⟨⟨gs, gw⟩, wd, wtr⟩ d ⟨hL, hI, tri⟩ (first ++ [x]) = y := ⟨_, rfl⟩
          rw [hrs] at HIH
          have HSTEP : Hid (step x = rs) := Lib.hid (by rw [← hrs, ← HST.out]; exact srcB_rec HAF.out HTRI.out HLB.out HE.out)
          clear hih hrs
          have z0 := ((K5.out.ext HXw2.out).ext HX7.out).cell 0 (v := .pointer (some ⟨kb, 0, none⟩)) rfl
          have zl := ((K5.out.ext HXw2.out).ext HX7.out).lt
          have f0 := ((K6.out.ext HXw2.out).ext HX7.out).cell 0 (v := .int .i64 sl) rfl
          have f1 := ((K6.out.ext HXw2.out).ext HX7.out).cell 1 (v := .bool si) rfl
          have fl := ((K6.out.ext HXw2.out).ext HX7.out).lt
          have y0 := (K146.out.ext HX67.out).cell 0 (v := .int .i64 hL) rfl
          have y1 := (K146.out.ext HX67.out).cell 1 (v := .bool hI) rfl
          have yl := (K146.out.ext HX67.out).lt
          gi_wp2_with fail
          all_goals try (exact undef_case ‹some undef = some (Value.bool _)›)
          refine ⟨trivial, CallsIn.inRound l ((callsIn_wide.2 HIH.out).mono ?_)⟩
          rintro e w8 ⟨hsa, hx8⟩
          have HX8 := Lib.hid hx8
          clear z0 zl f0 f1 fl y0 y1 yl e0 e1 el g0 g1 g2 g3 gl t0 tl b0 bl bf0 c0 cl cf0 hx8 hd0 hgo
          cases rs with
          | none =>
            have hsa : e = .returned (.tuple #[.slice none 0 0, .bool false]) := hsa
            subst hsa
            gi_wp2
            exact HCONT.out w8 HX8.out HSTEP.out
          | some way =>
            obtain ⟨ra, rc, hsa, hown⟩ : ∃ a m, e = .returned (.tuple #[.slice a way.length m, .bool true]) ∧ OwnD w8 w7.heap.size (.slice a way.length m) way := hsa
            subst hsa
            have HOW := Lib.hid hown
            clear hown
            have b0 := (((K10.out.ext HXw2.out).ext HX7.out).ext HX8.out).cell 0 (v := .slice none 0 0) rfl
            have bl := (((K10.out.ext HXw2.out).ext HX7.out).ext HX8.out).lt
            have bf0 := (((K10.out.ext HXw2.out).ext HX7.out).ext HX8.out).frozen 0
            have c0 := (((K11.out.ext HXw2.out).ext HX7.out).ext HX8.out).cell 0 (v := .bool false) rfl
            have cl := (((K11.out.ext HXw2.out).ext HX7.out).ext HX8.out).lt
            have cf0 := (((K11.out.ext HXw2.out).ext HX7.out).ext HX8.out).frozen 0
            gi_wp2
            exact HRET.out w8 ra rc way HX8.out.size HX8.out HSTEP.out (own_mono HOW.out (by have h1 := HW5S.out; have h2 := HX56.out.size; have h3 := HX67.out.size; omega)) _ rfl
        · cases GB
          · have hhas : hasB gin gout beds ⟨sl, si⟩ ⟨⟨gs, gw⟩, wd, wtr⟩ ⟨nl, ni, nt⟩ first.length x = false := by
              rw [HHAS.out]
              have hl : ((first.length : Int) + 1 == wd) = true := HLB.out
              show (((first.length : Int) + 1 == wd) && _) = _
              rw [hl]
              have hg : decide ((⟨sl - hL, (0 : Int) == 1⟩ : Gl) = ⟨gs, gw⟩) = false := HGB.out
              show (true && (decide ((⟨sl - hL, (0 : Int) == 1⟩ : Gl) = ⟨gs, gw⟩) && _)) = _
              rw [hg]
              rfl
            have HSTEP := Lib.hid (show step x = none by rw [← HST.out]; exact srcB_none hhas (.inl HLB.out))
            clear hhas
            gi_wp2
            all_goals first | exact undef_case ‹some undef = some (Value.bool _)› | exact HCONT.out w7 (Ext.refl _) HSTEP.out
          · cases h3 : decide (wtr < 0)
            · have h3x := of_decide_eq_false h3
              cases h4 : (tri == wtr)
              · have hhas : hasB gin gout beds ⟨sl, si⟩ ⟨⟨gs, gw⟩, wd, wtr⟩ ⟨nl, ni, nt⟩ first.length x = false := by
                  rw [HHAS.out]
                  have hl : ((first.length : Int) + 1 == wd) = true := HLB.out
                  show (((first.length : Int) + 1 == wd) && _) = _
                  rw [hl]
                  have hg : decide ((⟨sl - hL, (0 : Int) == 1⟩ : Gl) = ⟨gs, gw⟩) = true := HGB.out
                  show (true && (decide ((⟨sl - hL, (0 : Int) == 1⟩ : Gl) = ⟨gs, gw⟩) && _)) = _
                  rw [hg]
                  show (true && (true && ((decide (wtr < 0) || (tri == wtr)) && _))) = _
                  rw [h3]
                  rw [h4]
                  rfl
                have HSTEP := Lib.hid (show step x = none by rw [← HST.out]; exact srcB_none hhas (.inl HLB.out))
                clear hhas
                gi_wp2
                all_goals first | exact undef_case ‹some undef = some (Value.bool _)› | exact HCONT.out w7 (Ext.refl _) HSTEP.out
              · cases h5 : decide (first.length + 1 = 3)
                · have h5x := of_decide_eq_false h5
                  have hhas : hasB gin gout beds ⟨sl, si⟩ ⟨⟨gs, gw⟩, wd, wtr⟩ ⟨nl, ni, nt⟩ first.length x = false := by
                    rw [HHAS.out]
                    have hl : ((first.length : Int) + 1 == wd) = true := HLB.out
                    show (((first.length : Int) + 1 == wd) && _) = _
                    rw [hl]
                    have hg : decide ((⟨sl - hL, (0 : Int) == 1⟩ : Gl) = ⟨gs, gw⟩) = true := HGB.out
                    show (true && (decide ((⟨sl - hL, (0 : Int) == 1⟩ : Gl) = ⟨gs, gw⟩) && _)) = _
                    rw [hg]
                    show (true && (true && ((decide (wtr < 0) || (tri == wtr)) && _))) = _
                    rw [h3]
                    rw [h4]
                    show (true && (true && (_ && (_ || decide (first.length + 1 = 3))))) = _
                    rw [h5]
                    rfl
                  have HSTEP := Lib.hid (show step x = none by rw [← HST.out]; exact srcB_none hhas (.inl HLB.out))
                  clear hhas
                  gi_wp2
                  all_goals first | exact undef_case ‹some undef = some (Value.bool _)› | exact HCONT.out w7 (Ext.refl _) HSTEP.out
                · have h5x := of_decide_eq_true h5
                  have hhas : hasB gin gout beds ⟨sl, si⟩ ⟨⟨gs, gw⟩, wd, wtr⟩ ⟨nl, ni, nt⟩ first.length x = true := by
                    rw [HHAS.out]
                    have hl : ((first.length : Int) + 1 == wd) = true := HLB.out
                    show (((first.length : Int) + 1 == wd) && _) = _
                    rw [hl]
                    have hg : decide ((⟨sl - hL, (0 : Int) == 1⟩ : Gl) = ⟨gs, gw⟩) = true := HGB.out
                    show (true && (decide ((⟨sl - hL, (0 : Int) == 1⟩ : Gl) = ⟨gs, gw⟩) && _)) = _
                    rw [hg]
                    show (true && (true && ((decide (wtr < 0) || (tri == wtr)) && _))) = _
                    rw [h3]
                    rw [h4]
                    show (true && (true && (_ && (_ || decide (first.length + 1 = 3))))) = _
                    rw [h5]
                    rfl
                  have HSTEP := Lib.hid (show step x = some (first ++ [x]) by rw [← HST.out]; exact srcB_some hhas)
                  clear hhas
                  gi_wp2
                  all_goals first | exact undef_case ‹some undef = some (Value.bool _)› | exact HRET.out w7 va vc (first ++ [x]) (Nat.le_refl _) (Ext.refl _) HSTEP.out (by rw [show (first ++ [x]).length = first.length + 1 by simp]; exact HKF.out.2.2.2) _ (by first | (simp; done) | simp [h5x])
            · have h3x := of_decide_eq_true h3
              cases h5 : decide (first.length + 1 = 3)
              · have h5x := of_decide_eq_false h5
                have hhas : hasB gin gout beds ⟨sl, si⟩ ⟨⟨gs, gw⟩, wd, wtr⟩ ⟨nl, ni, nt⟩ first.length x = false := by
                  rw [HHAS.out]
                  have hl : ((first.length : Int) + 1 == wd) = true := HLB.out
                  show (((first.length : Int) + 1 == wd) && _) = _
                  rw [hl]
                  have hg : decide ((⟨sl - hL, (0 : Int) == 1⟩ : Gl) = ⟨gs, gw⟩) = true := HGB.out
                  show (true && (decide ((⟨sl - hL, (0 : Int) == 1⟩ : Gl) = ⟨gs, gw⟩) && _)) = _
                  rw [hg]
                  show (true && (true && ((decide (wtr < 0) || (tri == wtr)) && _))) = _
                  rw [h3]
                  show (true && (true && (_ && (_ || decide (first.length + 1 = 3))))) = _
                  rw [h5]
                  rfl
                have HSTEP := Lib.hid (show step x = none by rw [← HST.out]; exact srcB_none hhas (.inl HLB.out))
                clear hhas
                gi_wp2
                all_goals first | exact undef_case ‹some undef = some (Value.bool _)› | exact HCONT.out w7 (Ext.refl _) HSTEP.out
              · have h5x := of_decide_eq_true h5
                have hhas : hasB gin gout beds ⟨sl, si⟩ ⟨⟨gs, gw⟩, wd, wtr⟩ ⟨nl, ni, nt⟩ first.length x = true := by
                  rw [HHAS.out]
                  have hl : ((first.length : Int) + 1 == wd) = true := HLB.out
                  show (((first.length : Int) + 1 == wd) && _) = _
                  rw [hl]
                  have hg : decide ((⟨sl - hL, (0 : Int) == 1⟩ : Gl) = ⟨gs, gw⟩) = true := HGB.out
                  show (true && (decide ((⟨sl - hL, (0 : Int) == 1⟩ : Gl) = ⟨gs, gw⟩) && _)) = _
                  rw [hg]
                  show (true && (true && ((decide (wtr < 0) || (tri == wtr)) && _))) = _
                  rw [h3]
                  show (true && (true && (_ && (_ || decide (first.length + 1 = 3))))) = _
                  rw [h5]
                  rfl
                have HSTEP := Lib.hid (show step x = some (first ++ [x]) by rw [← HST.out]; exact srcB_some hhas)
                clear hhas
                gi_wp2
                all_goals first | exact undef_case ‹some undef = some (Value.bool _)› | exact HRET.out w7 va vc (first ++ [x]) (Nat.le_refl _) (Ext.refl _) HSTEP.out (by rw [show (first ++ [x]).length = first.length + 1 by simp]; exact HKF.out.2.2.2) _ (by first | (simp; done) | simp [h5x])
      · obtain ⟨w4, hw4⟩ : ∃ y, y = w3 := ⟨_, rfl⟩
        rw [← hw4] at K14 HX3 HXw3 ⊢
        have HX4 := Lib.hid HX3.out
        have HWX4 := Lib.hid HXw3.out
        have HAF : Hid (aftS gin gout ⟨sl, si⟩ ⟨nl, ni, nt⟩ x = ⟨hL, hI⟩) := Lib.hid (by rw [HA.out, HE.out]; rfl)
        clear hw4 HA
        have HXT := Lib.hid (HX2.out.trans HX4.out)
        have hw4s : w2.heap.size + 2 ≤ w4.heap.size := by have h1 := HWS.out; have h2 := HXW.out.size; have h3 := K14.out.lt; have h4 := Hk14.out; omega
        have HW4S := Lib.hid hw4s
        clear hw4s
        obtain ⟨fa', fc', efv, fcl, flc, fcm, fnil⟩ := (HF.out.ext HXT.out).cells
        obtain ⟨rfl, rfl⟩ : fa = fa' ∧ fc = fc' := by cases efv; exact ⟨rfl, rfl⟩
        have FAD := Lib.hid (HF.out.addr)
        have FCL := Lib.hid fcl
        have FLC := Lib.hid (And.intro flc (And.intro fcm fnil))
        clear efv fcl flc fcm fnil
        have p0 := ((K8.out.ext HXw2.out).ext HX4.out).cell 0 (v := .slice fa first.length fc) rfl
        have pl := ((K8.out.ext HXw2.out).ext HX4.out).lt
        gi_wp2_with fail
        refine ⟨trivial, CallsIn.inRound l ((callsIn_wide.2 (clip_d fa first.length fc w4 FLC.out.2.2 FLC.out.1 FLC.out.2.1 FAD.out)).mono ?_)⟩
        rintro e w5 ⟨rfl, hx5⟩
        have HX5 := Lib.hid (HX4.out.trans hx5)
        have HWX5 := Lib.hid (HWX4.out.trans hx5)
        have FCL5 := Lib.hid (FCL.out.ext hx5)
        have HW5S := Lib.hid (Nat.le_trans HW4S.out hx5.size)
        have K145 := Lib.hid (K14.out.ext hx5)
        clear hx5 p0 pl
        obtain ⟨i0, hi0, hz0, hz1, hz2⟩ := info_parts info_bed
        have hlen : first.length ≤ 1000 := by have h1 : (first.length : Int) + ((d + 1 : Nat) : Int) = wd := HFD.out; have h2 : wd ≤ 100 := HWD.out; omega
        have HLEN := Lib.hid hlen
        gi_wp2_with (refine wpListIn_append_grows _ rfl _ _ 25 rfl 99 i0 _ 1 8 (by kernel_rfl) hi0 hz0 hz1 hz2 rfl (by decide) fa first.length first.length (first.map (Value.int .i64)) rfl (fun h => ⟨(FLC.out.2.2 h).1, (FLC.out.2.2 h).1⟩) (by simp) (CellsAt.vals (FCL5.out.ext ((Ext.refl w5).alloc _))) ⟨w5.heap.size, 0, none⟩ 1 1 [.int .i64 x] rfl rfl ?_ ?_ (by omega) (by unfold maxLen; omega) (by omega) ?_)
        · intro j u hj
          match j, hj with
          | 0, hj => cases hj; rw [addr_add]; exact (Blk.new w5 _ _).cell 0 rfl
        · intro u hu
          cases hu with
          | head => rfl
          | tail _ h => cases h
        intro v' w6 ho6 hg6
        have ho7 : OwnD w6 (w5.heap.size + 1) v' (first ++ [x]) := by
          show w6.ownsRow _ _ _ _ (first ++ [x]).length ((first ++ [x]).map (Value.int .i64))
          rw [List.length_append, List.map_append]
          exact ho6
        obtain ⟨va, vc, ev⟩ := ho7.shape
        rw [show (first ++ [x]).length = first.length + 1 by simp] at ev
        subst ev
        have HX6 := Lib.hid (HX5.out.trans (((Ext.refl w5).alloc (.cells #[.int .i64 x] 99)).trans (Ext.of_grown hg6)))
        have HX56 := Lib.hid (((Ext.refl w5).alloc (.cells #[.int .i64 x] 99)).trans (Ext.of_grown hg6))
        have HO7 : Hid (OwnD w6 (w2.heap.size + 2) (.slice va (first.length + 1) vc) (first ++ [x])) := Lib.hid (own_mono ho7 (by have := HW5S.out; omega))
        have K146 := Lib.hid (K145.out.ext HX56.out)
        clear hi0 hz0 hz1 hz2 hlen ho6 hg6 ho7
        obtain ⟨LB, hLB⟩ : ∃ b, ((first.length : Int) + 1 == wd) = b := ⟨_, rfl⟩
        have HLB := Lib.hid hLB
        have hwa : wrap64 (sl - hL) = sl - hL := by
          have h := HHB.out
          exact wrap64_in' ⟨by omega, by omega⟩
        have z0 := ((K6.out.ext HXw2.out).ext HX6.out).cell 0 (v := .int .i64 sl) rfl
        have z1 := ((K6.out.ext HXw2.out).ext HX6.out).cell 1 (v := .bool si) rfl
        have zl := ((K6.out.ext HXw2.out).ext HX6.out).lt
        have y0 := K146.out.cell 0 (v := .int .i64 hL) rfl
        have y1 := K146.out.cell 1 (v := .bool hI) rfl
        have yl := K146.out.lt
        have g0 := ((K9.out.ext HXw2.out).ext HX6.out).cell 0 (v := .int .i64 gs) rfl
        have g1 := ((K9.out.ext HXw2.out).ext HX6.out).cell 1 (v := .bool gw) rfl
        have g2 := ((K9.out.ext HXw2.out).ext HX6.out).cell 2 (v := .int .i64 wd) rfl
        have g3 := ((K9.out.ext HXw2.out).ext HX6.out).cell 3 (v := .int .i64 wtr) rfl
        have gl := ((K9.out.ext HXw2.out).ext HX6.out).lt
        have t0 := (K12.out.ext HX6.out).cell 0 (v := .int .i64 tri) rfl
        have tl := (K12.out.ext HX6.out).lt
        gi_upto_region 10 with fail
        clear z0 z1 zl y0 y1 yl g0 g1 g2 g3 gl t0 tl hLB hwa
        obtain ⟨w7, hw7⟩ : ∃ y, y = w6.alloc (.cells #[.int .i64 (sl - hL), .bool true] 121) := ⟨_, rfl⟩
        obtain ⟨k18, hk18⟩ : ∃ y, y = w6.heap.size := ⟨_, rfl⟩
        rw [← hw7, ← hk18]
        have HX67 : Hid (Ext w6 w7) := Lib.hid (by rw [hw7]; exact (Ext.refl w6).alloc _)
        have K18 : Hid (Blk w7 k18 #[.int .i64 (sl - hL), .bool true]) := Lib.hid (by rw [hw7, hk18]; exact Blk.new _ _ _)
        have HX7 := Lib.hid (HX6.out.trans HX67.out)
        have HKF : Hid (KeepsFrom w2.heap.size W w7 ∧ Kc S0 W w7 ∧ Ext w2 w7 ∧ OwnD w7 (w2.heap.size + 2) (.slice va (first.length + 1) vc) (first ++ [x])) := Lib.hid (by
          have hxx : Chg S0 W w7 := (HWX5.out.trans (HX56.out.trans HX67.out)).chg _
          exact ⟨kf_chg hxx (fun _ h => h.elim), Kc.of_chg hxx, HX7.out, HO7.out.ext HX67.out⟩)
        clear hw7 hk18
        obtain ⟨GB, hGB⟩ : ∃ b, decide ((⟨(sl - hL), true⟩ : Gl) = ⟨gs, gw⟩) = b := ⟨_, rfl⟩
        have HGB := Lib.hid hGB
        have hgo : ∀ W', (Op.equalIn 10000 121 (.agg #[.int .i64 (sl - hL), .bool true]) (.agg #[.int .i64 gs, .bool gw])).run Try.prog W' = .ok GB W' := fun W' => by
          rw [← HGB.out]
          exact eqGl 9998 ⟨(sl - hL), true⟩ ⟨gs, gw⟩ W'
        clear hGB
        have HHAS := Lib.hid (hasB_of (wt := ⟨⟨gs, gw⟩, wd, wtr⟩) (len := first.length) HE.out HAF.out HTRI.out)
        have HCONT : Hid (∀ w8, Ext w7 w8 → step x = none → KeepsFrom w2.heap.size W w8 ∧ Kc S0 W w8 ∧ SrcI step w2 (pre ++ [x]) w8) := Lib.hid (fun w8 hx8 h => ⟨HKF.out.1.trans (kf_chg (hx8.chg S0) (fun _ h => h.elim)), HKF.out.2.1.ext hx8, by rw [src_snoc HNO.out]; exact h, HX7.out.trans hx8⟩)
        have HRET : Hid (∀ w8 ra rc way, w7.heap.size ≤ w8.heap.size → Ext w7 w8 → step x = some way → OwnD w8 (w2.heap.size + 2) (.slice ra way.length rc) way → ∀ W9, W9 = (w8.setCell ⟨B + 1 + 1 + 1 + 1 + 1, 0, none⟩ (.slice ra way.length rc)).setCell ⟨B + 1 + 1 + 1 + 1 + 1 + 1, 0, none⟩ (.bool true) → KeepsFrom w2.heap.size W W9 ∧ SrcX step (B + 1 + 1 + 1 + 1 + 1) w2 (w2.heap.size + 2) .ret (pre ++ [x]) W9) := Lib.hid (by
          rintro w8 ra rc way - hx8 hs ho W9 rfl
          obtain ⟨q0, q1, qc⟩ := two_out (((K10.out.ext HXw2.out).ext HX7.out).ext hx8) (((K11.out.ext HXw2.out).ext HX7.out).ext hx8) (.slice ra way.length rc) (.bool true)
          have hz := HSZ.out
          refine ⟨HKF.out.1.trans ((kf_chg (hx8.chg S0) (fun _ h => h.elim)).trans (kf_chg qc (fun k hk => by rcases hk with h | h <;> omega))), rfl, ⟨ra, rc, way, by rw [src_snoc HNO.out]; exact hs, q0, q1, own_chg ho qc (fun k hk e => ?_)⟩, (((HX7.out.trans hx8).chg _).trans qc)⟩
          have := (World.ownsRow.lt ho k hk).1
          rcases e with e | e <;> omega)
        have e0 := K18.out.cell 0 (v := .int .i64 (sl - hL)) rfl
        have e1 := K18.out.cell 1 (v := .bool true) rfl
        have el := K18.out.lt
        have g0 := ((K9.out.ext HXw2.out).ext HX7.out).cell 0 (v := .int .i64 gs) rfl
        have g1 := ((K9.out.ext HXw2.out).ext HX7.out).cell 1 (v := .bool gw) rfl
        have g2 := ((K9.out.ext HXw2.out).ext HX7.out).cell 2 (v := .int .i64 wd) rfl
        have g3 := ((K9.out.ext HXw2.out).ext HX7.out).cell 3 (v := .int .i64 wtr) rfl
        have gl := ((K9.out.ext HXw2.out).ext HX7.out).lt
        have t0 := (K12.out.ext HX7.out).cell 0 (v := .int .i64 tri) rfl
        have tl := (K12.out.ext HX7.out).lt
        have b0 := ((K10.out.ext HXw2.out).ext HX7.out).cell 0 (v := .slice none 0 0) rfl
        have bl := ((K10.out.ext HXw2.out).ext HX7.out).lt
        have bf0 := ((K10.out.ext HXw2.out).ext HX7.out).frozen 0
        have c0 := ((K11.out.ext HXw2.out).ext HX7.out).cell 0 (v := .bool false) rfl
        have cl := ((K11.out.ext HXw2.out).ext HX7.out).lt
        have cf0 := ((K11.out.ext HXw2.out).ext HX7.out).frozen 0
        cases LB
        · have hhas : hasB gin gout beds ⟨sl, si⟩ ⟨⟨gs, gw⟩, wd, wtr⟩ ⟨nl, ni, nt⟩ first.length x = false := by
            rw [HHAS.out]
            have hl : ((first.length : Int) + 1 == wd) = false := HLB.out
            show (((first.length : Int) + 1 == wd) && _) = _
            rw [hl]
            rfl
          have HSTEP := Lib.hid (show step x = none by rw [← HST.out]; exact srcB_none hhas (.inr (by rw [HE.out]; decide)))
          clear hhas
          gi_wp2
          all_goals first | exact undef_case ‹some undef = some (Value.bool _)› | exact HCONT.out w7 (Ext.refl _) HSTEP.out
        · cases GB
          · have hhas : hasB gin gout beds ⟨sl, si⟩ ⟨⟨gs, gw⟩, wd, wtr⟩ ⟨nl, ni, nt⟩ first.length x = false := by
              rw [HHAS.out]
              have hl : ((first.length : Int) + 1 == wd) = true := HLB.out
              show (((first.length : Int) + 1 == wd) && _) = _
              rw [hl]
              have hg : decide ((⟨sl - hL, (1 : Int) == 1⟩ : Gl) = ⟨gs, gw⟩) = false := HGB.out
              show (true && (decide ((⟨sl - hL, (1 : Int) == 1⟩ : Gl) = ⟨gs, gw⟩) && _)) = _
              rw [hg]
              rfl
            have HSTEP := Lib.hid (show step x = none by rw [← HST.out]; exact srcB_none hhas (.inr (by rw [HE.out]; decide)))
            clear hhas
            gi_wp2
            all_goals first | exact undef_case ‹some undef = some (Value.bool _)› | exact HCONT.out w7 (Ext.refl _) HSTEP.out
          · cases h3 : decide (wtr < 0)
            · have h3x := of_decide_eq_false h3
              cases h4 : (tri == wtr)
              · have hhas : hasB gin gout beds ⟨sl, si⟩ ⟨⟨gs, gw⟩, wd, wtr⟩ ⟨nl, ni, nt⟩ first.length x = false := by
                  rw [HHAS.out]
                  have hl : ((first.length : Int) + 1 == wd) = true := HLB.out
                  show (((first.length : Int) + 1 == wd) && _) = _
                  rw [hl]
                  have hg : decide ((⟨sl - hL, (1 : Int) == 1⟩ : Gl) = ⟨gs, gw⟩) = true := HGB.out
                  show (true && (decide ((⟨sl - hL, (1 : Int) == 1⟩ : Gl) = ⟨gs, gw⟩) && _)) = _
                  rw [hg]
                  show (true && (true && ((decide (wtr < 0) || (tri == wtr)) && _))) = _
                  rw [h3]
                  rw [h4]
                  rfl
                have HSTEP := Lib.hid (show step x = none by rw [← HST.out]; exact srcB_none hhas (.inr (by rw [HE.out]; decide)))
                clear hhas
                gi_wp2
                all_goals first | exact undef_case ‹some undef = some (Value.bool _)› | exact HCONT.out w7 (Ext.refl _) HSTEP.out
              · have hhas : hasB gin gout beds ⟨sl, si⟩ ⟨⟨gs, gw⟩, wd, wtr⟩ ⟨nl, ni, nt⟩ first.length x = true := by
                  rw [HHAS.out]
                  have hl : ((first.length : Int) + 1 == wd) = true := HLB.out
                  show (((first.length : Int) + 1 == wd) && _) = _
                  rw [hl]
                  have hg : decide ((⟨sl - hL, (1 : Int) == 1⟩ : Gl) = ⟨gs, gw⟩) = true := HGB.out
                  show (true && (decide ((⟨sl - hL, (1 : Int) == 1⟩ : Gl) = ⟨gs, gw⟩) && _)) = _
                  rw [hg]
                  show (true && (true && ((decide (wtr < 0) || (tri == wtr)) && _))) = _
                  rw [h3]
                  rw [h4]
                  rfl
                have HSTEP := Lib.hid (show step x = some (first ++ [x]) by rw [← HST.out]; exact srcB_some hhas)
                clear hhas
                gi_wp2
                all_goals first | exact undef_case ‹some undef = some (Value.bool _)› | exact HRET.out w7 va vc (first ++ [x]) (Nat.le_refl _) (Ext.refl _) HSTEP.out (by rw [show (first ++ [x]).length = first.length + 1 by simp]; exact HKF.out.2.2.2) _ (by first | (simp; done) | simp [h5x])
            · have h3x := of_decide_eq_true h3
              have hhas : hasB gin gout beds ⟨sl, si⟩ ⟨⟨gs, gw⟩, wd, wtr⟩ ⟨nl, ni, nt⟩ first.length x = true := by
                rw [HHAS.out]
                have hl : ((first.length : Int) + 1 == wd) = true := HLB.out
                show (((first.length : Int) + 1 == wd) && _) = _
                rw [hl]
                have hg : decide ((⟨sl - hL, (1 : Int) == 1⟩ : Gl) = ⟨gs, gw⟩) = true := HGB.out
                show (true && (decide ((⟨sl - hL, (1 : Int) == 1⟩ : Gl) = ⟨gs, gw⟩) && _)) = _
                rw [hg]
                show (true && (true && ((decide (wtr < 0) || (tri == wtr)) && _))) = _
                rw [h3]
                rfl
              have HSTEP := Lib.hid (show step x = some (first ++ [x]) by rw [← HST.out]; exact srcB_some hhas)
              clear hhas
              gi_wp2
              all_goals first | exact undef_case ‹some undef = some (Value.bool _)› | exact HRET.out w7 va vc (first ++ [x]) (Nat.le_refl _) (Ext.refl _) HSTEP.out (by rw [show (first ++ [x]).length = first.length + 1 by simp]; exact HKF.out.2.2.2) _ (by first | (simp; done) | simp [h5x])
      · have a0 := K14.out.cell 0 (v := .int .i64 hL) rfl
        have a1 := K14.out.cell 1 (v := .bool hI) rfl
        have af0 := K14.out.frozen 0
        have af1 := K14.out.frozen 1
        have al := K14.out.lt
        have z0 := ((K6.out.ext HXw2.out).ext HX3.out).cell 0 (v := .int .i64 sl) rfl
        have z1 := ((K6.out.ext HXw2.out).ext HX3.out).cell 1 (v := .bool si) rfl
        have zl := ((K6.out.ext HXw2.out).ext HX3.out).lt
        have q14 := two_set K14.out (.int .i64 sl) (.bool si)
        have qc := two_chg (· = k14) w3 (b := k14) rfl (.int .i64 sl) (.bool si)
        gi_upto_region 7 with fail
        clear a0 a1 af0 af1 al z0 z1 zl
        generalize World.setCell _ _ _ = w4 at q14 qc ⊢
        have HWX4 : Hid (Ext W w4) := Lib.hid (Chg.to_ext HXw3.out qc (by rintro i rfl; exact Hk14.out))
        have HX4 : Hid (Ext w2 w4) := Lib.hid (Chg.to_ext HX3.out qc (by rintro i rfl; have := HXW.out.size; have := Hk14.out; omega))
        have HAF : Hid (aftS gin gout ⟨sl, si⟩ ⟨nl, ni, nt⟩ x = ⟨sl, si⟩) := Lib.hid (by rw [HA.out, HE.out]; rfl)
        clear K14 qc HA
        have K14 := Lib.hid q14
        clear q14
        have HXT := Lib.hid (HX2.out.trans HX4.out)
        have hw4s : w2.heap.size + 2 ≤ w4.heap.size := by have h1 := HWS.out; have h2 := HXW.out.size; have h3 := K14.out.lt; have h4 := Hk14.out; omega
        have HW4S := Lib.hid hw4s
        clear hw4s
        obtain ⟨fa', fc', efv, fcl, flc, fcm, fnil⟩ := (HF.out.ext HXT.out).cells
        obtain ⟨rfl, rfl⟩ : fa = fa' ∧ fc = fc' := by cases efv; exact ⟨rfl, rfl⟩
        have FAD := Lib.hid (HF.out.addr)
        have FCL := Lib.hid fcl
        have FLC := Lib.hid (And.intro flc (And.intro fcm fnil))
        clear efv fcl flc fcm fnil
        have p0 := ((K8.out.ext HXw2.out).ext HX4.out).cell 0 (v := .slice fa first.length fc) rfl
        have pl := ((K8.out.ext HXw2.out).ext HX4.out).lt
        gi_wp2_with fail
        refine ⟨trivial, CallsIn.inRound l ((callsIn_wide.2 (clip_d fa first.length fc w4 FLC.out.2.2 FLC.out.1 FLC.out.2.1 FAD.out)).mono ?_)⟩
        rintro e w5 ⟨rfl, hx5⟩
        have HX5 := Lib.hid (HX4.out.trans hx5)
        have HWX5 := Lib.hid (HWX4.out.trans hx5)
        have FCL5 := Lib.hid (FCL.out.ext hx5)
        have HW5S := Lib.hid (Nat.le_trans HW4S.out hx5.size)
        have K145 := Lib.hid (K14.out.ext hx5)
        clear hx5 p0 pl
        obtain ⟨i0, hi0, hz0, hz1, hz2⟩ := info_parts info_bed
        have hlen : first.length ≤ 1000 := by have h1 : (first.length : Int) + ((d + 1 : Nat) : Int) = wd := HFD.out; have h2 : wd ≤ 100 := HWD.out; omega
        have HLEN := Lib.hid hlen
        gi_wp2_with (refine wpListIn_append_grows _ rfl _ _ 25 rfl 99 i0 _ 1 8 (by kernel_rfl) hi0 hz0 hz1 hz2 rfl (by decide) fa first.length first.length (first.map (Value.int .i64)) rfl (fun h => ⟨(FLC.out.2.2 h).1, (FLC.out.2.2 h).1⟩) (by simp) (CellsAt.vals (FCL5.out.ext ((Ext.refl w5).alloc _))) ⟨w5.heap.size, 0, none⟩ 1 1 [.int .i64 x] rfl rfl ?_ ?_ (by omega) (by unfold maxLen; omega) (by omega) ?_)
        · intro j u hj
          match j, hj with
          | 0, hj => cases hj; rw [addr_add]; exact (Blk.new w5 _ _).cell 0 rfl
        · intro u hu
          cases hu with
          | head => rfl
          | tail _ h => cases h
        intro v' w6 ho6 hg6
        have ho7 : OwnD w6 (w5.heap.size + 1) v' (first ++ [x]) := by
          show w6.ownsRow _ _ _ _ (first ++ [x]).length ((first ++ [x]).map (Value.int .i64))
          rw [List.length_append, List.map_append]
          exact ho6
        obtain ⟨va, vc, ev⟩ := ho7.shape
        rw [show (first ++ [x]).length = first.length + 1 by simp] at ev
        subst ev
        have HX6 := Lib.hid (HX5.out.trans (((Ext.refl w5).alloc (.cells #[.int .i64 x] 99)).trans (Ext.of_grown hg6)))
        have HX56 := Lib.hid (((Ext.refl w5).alloc (.cells #[.int .i64 x] 99)).trans (Ext.of_grown hg6))
        have HO7 : Hid (OwnD w6 (w2.heap.size + 2) (.slice va (first.length + 1) vc) (first ++ [x])) := Lib.hid (own_mono ho7 (by have := HW5S.out; omega))
        have K146 := Lib.hid (K145.out.ext HX56.out)
        clear hi0 hz0 hz1 hz2 hlen ho6 hg6 ho7
        obtain ⟨LB, hLB⟩ : ∃ b, ((first.length : Int) + 1 == wd) = b := ⟨_, rfl⟩
        have HLB := Lib.hid hLB
        have hwa : wrap64 (sl - sl) = sl - sl := by
          have h := HHB.out
          exact wrap64_in' ⟨by omega, by omega⟩
        have z0 := ((K6.out.ext HXw2.out).ext HX6.out).cell 0 (v := .int .i64 sl) rfl
        have z1 := ((K6.out.ext HXw2.out).ext HX6.out).cell 1 (v := .bool si) rfl
        have zl := ((K6.out.ext HXw2.out).ext HX6.out).lt
        have y0 := K146.out.cell 0 (v := .int .i64 sl) rfl
        have y1 := K146.out.cell 1 (v := .bool si) rfl
        have yl := K146.out.lt
        have g0 := ((K9.out.ext HXw2.out).ext HX6.out).cell 0 (v := .int .i64 gs) rfl
        have g1 := ((K9.out.ext HXw2.out).ext HX6.out).cell 1 (v := .bool gw) rfl
        have g2 := ((K9.out.ext HXw2.out).ext HX6.out).cell 2 (v := .int .i64 wd) rfl
        have g3 := ((K9.out.ext HXw2.out).ext HX6.out).cell 3 (v := .int .i64 wtr) rfl
        have gl := ((K9.out.ext HXw2.out).ext HX6.out).lt
        have t0 := (K12.out.ext HX6.out).cell 0 (v := .int .i64 tri) rfl
        have tl := (K12.out.ext HX6.out).lt
        gi_upto_region 10 with fail
        clear z0 z1 zl y0 y1 yl g0 g1 g2 g3 gl t0 tl hLB hwa
        obtain ⟨w7, hw7⟩ : ∃ y, y = w6.alloc (.cells #[.int .i64 0, .bool false] 121) := ⟨_, rfl⟩
        obtain ⟨k18, hk18⟩ : ∃ y, y = w6.heap.size := ⟨_, rfl⟩
        rw [← hw7, ← hk18]
        have HX67 : Hid (Ext w6 w7) := Lib.hid (by rw [hw7]; exact (Ext.refl w6).alloc _)
        have K18 : Hid (Blk w7 k18 #[.int .i64 0, .bool false]) := Lib.hid (by rw [hw7, hk18]; exact Blk.new _ _ _)
        have HX7 := Lib.hid (HX6.out.trans HX67.out)
        have HKF : Hid (KeepsFrom w2.heap.size W w7 ∧ Kc S0 W w7 ∧ Ext w2 w7 ∧ OwnD w7 (w2.heap.size + 2) (.slice va (first.length + 1) vc) (first ++ [x])) := Lib.hid (by
          have hxx : Chg S0 W w7 := (HWX5.out.trans (HX56.out.trans HX67.out)).chg _
          exact ⟨kf_chg hxx (fun _ h => h.elim), Kc.of_chg hxx, HX7.out, HO7.out.ext HX67.out⟩)
        clear hw7 hk18
        obtain ⟨GB, hGB⟩ : ∃ b, decide ((⟨0, false⟩ : Gl) = ⟨gs, gw⟩) = b := ⟨_, rfl⟩
        have HGB := Lib.hid hGB
        have hgo : ∀ W', (Op.equalIn 10000 121 (.agg #[.int .i64 0, .bool false]) (.agg #[.int .i64 gs, .bool gw])).run Try.prog W' = .ok GB W' := fun W' => by
          rw [← HGB.out]
          exact eqGl 9998 ⟨0, false⟩ ⟨gs, gw⟩ W'
        clear hGB
        have HHAS := Lib.hid (hasB_of (wt := ⟨⟨gs, gw⟩, wd, wtr⟩) (len := first.length) HE.out HAF.out HTRI.out)
        have HCONT : Hid (∀ w8, Ext w7 w8 → step x = none → KeepsFrom w2.heap.size W w8 ∧ Kc S0 W w8 ∧ SrcI step w2 (pre ++ [x]) w8) := Lib.hid (fun w8 hx8 h => ⟨HKF.out.1.trans (kf_chg (hx8.chg S0) (fun _ h => h.elim)), HKF.out.2.1.ext hx8, by rw [src_snoc HNO.out]; exact h, HX7.out.trans hx8⟩)
        have HRET : Hid (∀ w8 ra rc way, w7.heap.size ≤ w8.heap.size → Ext w7 w8 → step x = some way → OwnD w8 (w2.heap.size + 2) (.slice ra way.length rc) way → ∀ W9, W9 = (w8.setCell ⟨B + 1 + 1 + 1 + 1 + 1, 0, none⟩ (.slice ra way.length rc)).setCell ⟨B + 1 + 1 + 1 + 1 + 1 + 1, 0, none⟩ (.bool true) → KeepsFrom w2.heap.size W W9 ∧ SrcX step (B + 1 + 1 + 1 + 1 + 1) w2 (w2.heap.size + 2) .ret (pre ++ [x]) W9) := Lib.hid (by
          rintro w8 ra rc way - hx8 hs ho W9 rfl
          obtain ⟨q0, q1, qc⟩ := two_out (((K10.out.ext HXw2.out).ext HX7.out).ext hx8) (((K11.out.ext HXw2.out).ext HX7.out).ext hx8) (.slice ra way.length rc) (.bool true)
          have hz := HSZ.out
          refine ⟨HKF.out.1.trans ((kf_chg (hx8.chg S0) (fun _ h => h.elim)).trans (kf_chg qc (fun k hk => by rcases hk with h | h <;> omega))), rfl, ⟨ra, rc, way, by rw [src_snoc HNO.out]; exact hs, q0, q1, own_chg ho qc (fun k hk e => ?_)⟩, (((HX7.out.trans hx8).chg _).trans qc)⟩
          have := (World.ownsRow.lt ho k hk).1
          rcases e with e | e <;> omega)
        have e0 := K18.out.cell 0 (v := .int .i64 0) rfl
        have e1 := K18.out.cell 1 (v := .bool false) rfl
        have el := K18.out.lt
        have g0 := ((K9.out.ext HXw2.out).ext HX7.out).cell 0 (v := .int .i64 gs) rfl
        have g1 := ((K9.out.ext HXw2.out).ext HX7.out).cell 1 (v := .bool gw) rfl
        have g2 := ((K9.out.ext HXw2.out).ext HX7.out).cell 2 (v := .int .i64 wd) rfl
        have g3 := ((K9.out.ext HXw2.out).ext HX7.out).cell 3 (v := .int .i64 wtr) rfl
        have gl := ((K9.out.ext HXw2.out).ext HX7.out).lt
        have t0 := (K12.out.ext HX7.out).cell 0 (v := .int .i64 tri) rfl
        have tl := (K12.out.ext HX7.out).lt
        have b0 := ((K10.out.ext HXw2.out).ext HX7.out).cell 0 (v := .slice none 0 0) rfl
        have bl := ((K10.out.ext HXw2.out).ext HX7.out).lt
        have bf0 := ((K10.out.ext HXw2.out).ext HX7.out).frozen 0
        have c0 := ((K11.out.ext HXw2.out).ext HX7.out).cell 0 (v := .bool false) rfl
        have cl := ((K11.out.ext HXw2.out).ext HX7.out).lt
        have cf0 := ((K11.out.ext HXw2.out).ext HX7.out).frozen 0
        cases LB
        · have hhas : hasB gin gout beds ⟨sl, si⟩ ⟨⟨gs, gw⟩, wd, wtr⟩ ⟨nl, ni, nt⟩ first.length x = false := by
            rw [HHAS.out]
            have hl : ((first.length : Int) + 1 == wd) = false := HLB.out
            show (((first.length : Int) + 1 == wd) && _) = _
            rw [hl]
            rfl
          have HSTEP := Lib.hid (show step x = none by rw [← HST.out]; exact srcB_none hhas (.inr (by rw [HE.out]; decide)))
          clear hhas
          gi_wp2
          all_goals first | exact undef_case ‹some undef = some (Value.bool _)› | exact HCONT.out w7 (Ext.refl _) HSTEP.out
        · cases GB
          · have hhas : hasB gin gout beds ⟨sl, si⟩ ⟨⟨gs, gw⟩, wd, wtr⟩ ⟨nl, ni, nt⟩ first.length x = false := by
              rw [HHAS.out]
              have hl : ((first.length : Int) + 1 == wd) = true := HLB.out
              show (((first.length : Int) + 1 == wd) && _) = _
              rw [hl]
              have hg : decide ((⟨sl - sl, (2 : Int) == 1⟩ : Gl) = ⟨gs, gw⟩) = false := (by rw [Int.sub_self]; exact HGB.out)
              show (true && (decide ((⟨sl - sl, (2 : Int) == 1⟩ : Gl) = ⟨gs, gw⟩) && _)) = _
              rw [hg]
              rfl
            have HSTEP := Lib.hid (show step x = none by rw [← HST.out]; exact srcB_none hhas (.inr (by rw [HE.out]; decide)))
            clear hhas
            gi_wp2
            all_goals first | exact undef_case ‹some undef = some (Value.bool _)› | exact HCONT.out w7 (Ext.refl _) HSTEP.out
          · cases h3 : decide (wtr < 0)
            · have h3x := of_decide_eq_false h3
              cases h4 : (tri == wtr)
              · have hhas : hasB gin gout beds ⟨sl, si⟩ ⟨⟨gs, gw⟩, wd, wtr⟩ ⟨nl, ni, nt⟩ first.length x = false := by
                  rw [HHAS.out]
                  have hl : ((first.length : Int) + 1 == wd) = true := HLB.out
                  show (((first.length : Int) + 1 == wd) && _) = _
                  rw [hl]
                  have hg : decide ((⟨sl - sl, (2 : Int) == 1⟩ : Gl) = ⟨gs, gw⟩) = true := (by rw [Int.sub_self]; exact HGB.out)
                  show (true && (decide ((⟨sl - sl, (2 : Int) == 1⟩ : Gl) = ⟨gs, gw⟩) && _)) = _
                  rw [hg]
                  show (true && (true && ((decide (wtr < 0) || (tri == wtr)) && _))) = _
                  rw [h3]
                  rw [h4]
                  rfl
                have HSTEP := Lib.hid (show step x = none by rw [← HST.out]; exact srcB_none hhas (.inr (by rw [HE.out]; decide)))
                clear hhas
                gi_wp2
                all_goals first | exact undef_case ‹some undef = some (Value.bool _)› | exact HCONT.out w7 (Ext.refl _) HSTEP.out
              · have hhas : hasB gin gout beds ⟨sl, si⟩ ⟨⟨gs, gw⟩, wd, wtr⟩ ⟨nl, ni, nt⟩ first.length x = true := by
                  rw [HHAS.out]
                  have hl : ((first.length : Int) + 1 == wd) = true := HLB.out
                  show (((first.length : Int) + 1 == wd) && _) = _
                  rw [hl]
                  have hg : decide ((⟨sl - sl, (2 : Int) == 1⟩ : Gl) = ⟨gs, gw⟩) = true := (by rw [Int.sub_self]; exact HGB.out)
                  show (true && (decide ((⟨sl - sl, (2 : Int) == 1⟩ : Gl) = ⟨gs, gw⟩) && _)) = _
                  rw [hg]
                  show (true && (true && ((decide (wtr < 0) || (tri == wtr)) && _))) = _
                  rw [h3]
                  rw [h4]
                  rfl
                have HSTEP := Lib.hid (show step x = some (first ++ [x]) by rw [← HST.out]; exact srcB_some hhas)
                clear hhas
                gi_wp2
                all_goals first | exact undef_case ‹some undef = some (Value.bool _)› | exact HRET.out w7 va vc (first ++ [x]) (Nat.le_refl _) (Ext.refl _) HSTEP.out (by rw [show (first ++ [x]).length = first.length + 1 by simp]; exact HKF.out.2.2.2) _ (by first | (simp; done) | simp [h5x])
            · have h3x := of_decide_eq_true h3
              have hhas : hasB gin gout beds ⟨sl, si⟩ ⟨⟨gs, gw⟩, wd, wtr⟩ ⟨nl, ni, nt⟩ first.length x = true := by
                rw [HHAS.out]
                have hl : ((first.length : Int) + 1 == wd) = true := HLB.out
                show (((first.length : Int) + 1 == wd) && _) = _
                rw [hl]
                have hg : decide ((⟨sl - sl, (2 : Int) == 1⟩ : Gl) = ⟨gs, gw⟩) = true := (by rw [Int.sub_self]; exact HGB.out)
                show (true && (decide ((⟨sl - sl, (2 : Int) == 1⟩ : Gl) = ⟨gs, gw⟩) && _)) = _
                rw [hg]
                show (true && (true && ((decide (wtr < 0) || (tri == wtr)) && _))) = _
                rw [h3]
                rfl
              have HSTEP := Lib.hid (show step x = some (first ++ [x]) by rw [← HST.out]; exact srcB_some hhas)
              clear hhas
              gi_wp2
              all_goals first | exact undef_case ‹some undef = some (Value.bool _)› | exact HRET.out w7 va vc (first ++ [x]) (Nat.le_refl _) (Ext.refl _) HSTEP.out (by rw [show (first ++ [x]).length = first.length + 1 by simp]; exact HKF.out.2.2.2) _ (by first | (simp; done) | simp [h5x])
    case done =>
      rintro D xs W hD rfl ⟨hno, hext⟩ hdf
      have HDF := Lib.hid hdf
      have HXW := Lib.hid hext
      have HNO := Lib.hid hno
      clear hdf hext hno
      have b0 := ((K10.out.ext HXw2.out).ext HXW.out).cell 0 (v := .slice none 0 0) rfl
      have bl := ((K10.out.ext HXw2.out).ext HXW.out).lt
      have bf0 := ((K10.out.ext HXw2.out).ext HXW.out).frozen 0
      have c0 := ((K11.out.ext HXw2.out).ext HXW.out).cell 0 (v := .bool false) rfl
      have cl := ((K11.out.ext HXw2.out).ext HXW.out).lt
      have cf0 := ((K11.out.ext HXw2.out).ext HXW.out).frozen 0
      obtain ⟨q0, q1, qc⟩ := two_out ((K10.out.ext HXw2.out).ext HXW.out) ((K11.out.ext HXw2.out).ext HXW.out) (.slice none 0 0) (.bool false)
      have hr : res = none := by rw [HRES.out]; exact HNO.out
      subst hr
      gi_wp2
      generalize World.setCell _ _ _ = W3 at q0 q1 qc ⊢
      have hz := HSZ.out
      have hmk : Marks w2.heap.size W3 [D] := Marks.one hD (qc.heap HDF.out (by omega))
      show LeavesInM _ _ _ _ _ _ ([D].map markOf) .returning _
      refine ret_mN (v := .tuple #[.slice none 0 0, .bool false]) (lo := w2.heap.size) (w := W3) [D] W3 .refl hmk ?_
      intro W' hsh
      have c0 := (hsh.blk q0).cell 0 (v := .slice none 0 0) rfl
      have c1 := (hsh.blk q1).cell 0 (v := .bool false) rfl
      refine ⟨by simp [results, Try.results59, go_sem, c0, c1], rfl, ?_⟩
      refine Chg.to_ext (Ext.refl w) (hsh.chg (((HX2.out.trans HXW.out).chg (fun k => w.heap.size ≤ k)).trans (qc.mono ?_)) HX2.out.size) (fun _ h => h)
      rintro k - (h | h) <;> (have := HBB.out; omega)
    case stop =>
      rintro D c pre W hD ⟨kp, hkp⟩ ⟨rfl, ⟨ra, rc, way, hs, q0, q1, hown⟩, hchg⟩ hdf
      have hr : res = some way := by
        rw [HRES.out, ← List.take_append_drop kp (0 :: beds), ← hkp, List.findSome?_append, hs]
        rfl
      subst hr
      gi_wp2
      show LeavesInM _ _ _ _ _ _ ([D].map markOf) .returning _
      refine ret_mN (v := .tuple #[.slice ra way.length rc, .bool true]) (lo := w2.heap.size) (w := W) [D] W .refl (Marks.one hD hdf) ?_
      intro W' hsh
      have c0 := (hsh.blk q0).cell 0 (v := .slice ra way.length rc) rfl
      have c1 := (hsh.blk q1).cell 0 (v := .bool true) rfl
      refine ⟨by simp [results, Try.results59, go_sem, c0, c1], ⟨ra, rc, rfl, own_mono (hsh.own hown) (by have := HX2.out.size; omega)⟩, ?_⟩
      refine Chg.to_ext (Ext.refl w) (hsh.chg ((HX2.out.chg (fun k => w.heap.size ≤ k)).trans (hchg.mono ?_)) HX2.out.size) (fun _ h => h)
      rintro k - (h | h) <;> (have := HBB.out; omega)
end Go.Proofs.Ytmopadnkjlodnaa
