/-
  The reference of chapter 6: Visits.
-/
import Derived.Test.YtmopadnkjlodnaaRal
import Derived.Test.YtmopadnkjlodnaaPam
import Derived.Deep.DeepCutAuto
namespace Go.Proofs.Ytmopadnkjlodnaa
open Go.RowKit Go.BigFrame
attribute [local go_sem] Oper.semAt_some Later.cell Later.frozen Lat.cell Lat.frozen NoX
/-- Lists of visits in a row. -/
def VRs (w : World) (base b2 : Nat) (v : Value) (ls : List (List Vi)) : Prop := ∃ vals : List Value, w.ownsRow base 111 1 v ls.length vals ∧ vals.length = ls.length ∧ ∀ i (h : i < ls.length), ∃ a c, vals[i]? = some (.slice a ls[i].length c) ∧ VLs w b2 (.slice a ls[i].length c) ls[i]
theorem VRs.shape {w : World} {base b2 : Nat} {v : Value} {ls : List (List Vi)} (h : VRs w base b2 v ls) : ∃ a c, v = .slice a ls.length c := let ⟨_, h1, _⟩ := h; own_shape h1
theorem VLs.mono {w : World} {base base' : Nat} {v : Value} {l : List Vi} (h : VLs w base v l) (hb : base' ≤ base) : VLs w base' v l :=
  let ⟨vals, h1, h2, h3⟩ := h; ⟨vals, own_mono h1 hb, h2, fun i hi => let ⟨a, c, h4, h5, h6⟩ := h3 i hi; ⟨a, c, h4, h5, own_mono h6 hb⟩⟩
theorem VRs.ext {w w' : World} {base b2 : Nat} {v : Value} {ls : List (List Vi)} (h : VRs w base b2 v ls) (hx : Ext w w') : VRs w' base b2 v ls :=
  let ⟨vals, h1, h2, h3⟩ := h; ⟨vals, own_chg h1 (hx.chg fun _ => False) fun _ _ => id, h2, fun i hi => let ⟨a, c, h4, h5⟩ := h3 i hi; ⟨a, c, h4, h5.ext hx⟩⟩
theorem VRs.low {w w' : World} {S : Nat → Prop} {base b2 : Nat} {v : Value} {ls : List (List Vi)} (h : VRs w base b2 v ls) (hx : Chg S w w') (hv : ∀ k, v.ownBlock = some k → ¬ S k) (hs : ∀ k, b2 ≤ k → ¬ S k) : VRs w' base b2 v ls :=
  let ⟨vals, h1, h2, h3⟩ := h; ⟨vals, own_chg h1 hx hv, h2, fun i hi => let ⟨a, c, h4, h5⟩ := h3 i hi; ⟨a, c, h4, h5.low hx hs⟩⟩
theorem vr_ne {w : World} {base b2 : Nat} {v u : Value} {n m : Nat} {vals ys : List Value} {e : TypeId} {z : Nat} (h1 : w.ownsRow base 111 1 v n vals) (hu : w.ownsRow b2 e z u m ys) (hne : e ≠ 111) : ∀ k, u.ownBlock = some k → ¬ v.ownBlock = some k := by
  intro k hk e'
  obtain ⟨_, e1⟩ := own_type hu hk
  obtain ⟨_, e2⟩ := own_type h1 e'
  rw [e1] at e2
  cases e2
  exact hne rfl
theorem VLs.row {w w' : World} {base b2 : Nat} {v u : Value} {n : Nat} {vals : List Value} {l : List Vi} (h : VLs w b2 u l) (h1 : w.ownsRow base 111 1 v n vals) (hx : Chg (fun k => v.ownBlock = some k) w w') : VLs w' b2 u l :=
  let ⟨vs, k1, k2, k3⟩ := h; ⟨vs, own_chg k1 hx (vr_ne h1 k1 (by decide)), k2, fun i hi => let ⟨a, c, h4, h5, h6⟩ := k3 i hi; ⟨a, c, h4, h5, own_chg h6 hx (vr_ne h1 h6 (by decide))⟩⟩
theorem VRs.snoc {w w' : World} {base b2 : Nat} {v v' : Value} {ls : List (List Vi)} {x : List Vi} {a : Option Addr} {c : Nat} {vals : List Value} (h1 : w.ownsRow base 111 1 v ls.length vals) (h2 : vals.length = ls.length)
    (h3 : ∀ i (h : i < ls.length), ∃ a c, vals[i]? = some (.slice a ls[i].length c) ∧ VLs w b2 (.slice a ls[i].length c) ls[i]) (hw : VLs w b2 (.slice a x.length c) x)
    (hrow : w'.ownsRow base 111 1 v' (ls.length + 1) (vals ++ [.slice a x.length c])) (hx : Chg (fun k => v.ownBlock = some k) w w') : VRs w' base b2 v' (ls ++ [x]) := by
  refine ⟨vals ++ [.slice a x.length c], by simpa using hrow, by simp [h2], fun i hi => ?_⟩
  by_cases hlt : i < ls.length
  · obtain ⟨a', c', h4, h5⟩ := h3 i hlt
    rw [List.getElem_append_left hlt, List.getElem?_append_left (by omega)]
    exact ⟨a', c', h4, h5.row h1 hx⟩
  · have : i = ls.length := by simp at hi; omega
    subst this
    refine ⟨a, c, ?_, ?_⟩
    · rw [List.getElem?_append_right (by omega)]
      simp [h2]
    · simp only [List.getElem_append_right (Nat.le_refl _), Nat.sub_self, List.getElem_cons_zero]
      exact hw.row h1 hx
theorem info_vrow : (Try.prog.info? 111).map (fun i => (i.zero, i.size, i.bytes)) = some (some (.slice none 0 0), 1, 24) := by kernel_rfl
/-- What Visits of the reference hands back. -/
def VisR (r : List (List Vi) ⊕ Nat) (base : Nat) (e : Ending) (W : World) : Prop := match r with
  | .inr n => e = .returned (.tuple #[.slice none 0 0, .int .i64 n, .bool false])
  | .inl ls => ∃ v b2, e = .returned (.tuple #[v, .int .i64 0, .bool true]) ∧ VRs W base b2 v ls ∧ base ≤ b2
def cmbF (ls : List (List Vi)) : List (List Vi) ⊕ Nat → List (List Vi) ⊕ Nat
  | .inl r => .inl (ls ++ r)
  | .inr n => .inr n
theorem rvG_drop {gin gout : Int} {beds : List Int} {l : List Sg} {k : Nat} {x : Sg} (hx : l[k]? = some x) (ls : List (List Vi)) (h : allOf gin gout beds x ≠ []) : cmbF ls (rvG gin gout beds (l.drop k) k) = cmbF (ls ++ [allOf gin gout beds x]) (rvG gin gout beds (l.drop (k + 1)) (k + 1)) := by
  obtain ⟨hk, he⟩ := List.getElem?_eq_some_iff.1 hx
  rw [List.drop_eq_getElem_cons hk, he, rvG, if_neg h]
  cases rvG gin gout beds (l.drop (k + 1)) (k + 1) with
  | inl r => simp [cmbF]
  | inr n => rfl
theorem rvG_stop {gin gout : Int} {beds : List Int} {l : List Sg} {k : Nat} {x : Sg} (hx : l[k]? = some x) (ls : List (List Vi)) (h : allOf gin gout beds x = []) : cmbF ls (rvG gin gout beds (l.drop k) k) = .inr k := by
  obtain ⟨hk, he⟩ := List.getElem?_eq_some_iff.1 hx
  rw [List.drop_eq_getElem_cons hk, he, rvG, if_pos h]
  rfl
theorem all_bounds {gin gout : Int} {beds : List Int} {x : Sg} (hB : bedsB beds = true) (hs : 0 ≤ x.s.left) (h : allOf gin gout beds x ≠ []) : 0 ≤ x.g.score ∧ x.g.score ≤ x.s.left := by
  cases hl : allOf gin gout beds x with
  | nil => exact absurd hl h
  | cons v l =>
    obtain ⟨h1, h2⟩ := (outS_all x _).2 ⟨v, by rw [hl]; simp, rfl⟩
    have := (outS_bounds hB hs h1).1
    rw [h2] at this
    exact this
theorem goT_get {start : Int} {scores : List Int} {won : Bool} {k : Nat} (hk : k < scores.length) : (goT start scores won scores.length)[k]? = some (gAt start scores won k) := by
  unfold goT
  simp [hk]
/-- Between two visits of a leg. -/
structure RavI (start gin gout : Int) (beds : List Int) (ba : Option Addr) (bc : Nat) (scores : List Int) (sa : Option Addr) (sc : Nat) (won : Bool) (R : List (List Vi) ⊕ Nat) (B k6 lo : Nat) (w : World) (k : Nat) (v : Value) (ls : List (List Vi)) (W : World) : Prop where
  le : k ≤ scores.length
  len : ls.length = k
  res : R = cmbF ls (rvG gin gout beds ((goT start scores won scores.length).drop k) k)
  lb : 0 ≤ (stT start scores k).left ∧ (stT start scores k).left ≤ 1001
  row : VRs W lo (k6 + 1) v ls
  ne : ∀ q, v.ownBlock = some q → q ≠ k6
  box : Blk W B #[.int .i64 start, .int .i64 gin, .int .i64 gout, .slice ba beds.length bc, .slice sa scores.length sc, .bool won]
  st : Blk W k6 #[.int .i64 (stT start scores k).left, .bool (stT start scores k).inn, .bool false, .bool false]
  ext : Ext w W
  size : lo ≤ W.heap.size
set_option maxRecDepth 100000 in
set_option maxHeartbeats 16000000 in
theorem ref_Visits (start gin gout : Int) (beds : List Int) (ba : Option Addr) (bc : Nat) (scores : List Int) (sa : Option Addr) (sc : Nat) (won : Bool) (w : World) (hg : 0 ≤ gin ∧ gin ≤ 2) (hgo : 0 ≤ gout ∧ gout ≤ 2) (hst : 0 ≤ start ∧ start ≤ 1001) (hB : bedsB beds = true) (hn9 : beds.length ≤ 9) (hs : scores.length ≤ 1000) (hsi : ∀ x ∈ scores, 0 ≤ x ∧ I64 x) (hR : CellsAt w .i64 ba beds) (hS : CellsAt w .i64 sa scores) :
    Calls Try.prog 20 #[.agg #[.int .i64 start, .int .i64 gin, .int .i64 gout, .slice ba beds.length bc, .slice sa scores.length sc, .bool won]] w fun e w' => VisR (rvG gin gout beds (goT start scores won scores.length) 0) w.heap.size e w' ∧ Ext w w' := by
  obtain ⟨R, hRR⟩ : ∃ y, rvG gin gout beds (goT start scores won scores.length) 0 = y := ⟨_, rfl⟩
  rw [hRR]
  have HRR := Lib.hid hRR
  have HR := Lib.hid hR
  have HS := Lib.hid hS
  have HSI := Lib.hid hsi
  clear hRR hR hS hsi
  go_enter Try.func20, Try.ntmps20
  go_upto_region 1 with fail
  generalize hw1 : World.alloc w _ = w1
  obtain ⟨B, hBB⟩ : ∃ y, y = w.heap.size := ⟨_, rfl⟩
  rw [← hBB]
  have HX1 : Hid (Ext w w1) := Lib.hid (by rw [← hw1]; exact (Ext.refl w).alloc _)
  have K1 : Hid (Blk w1 B #[.int .i64 start, .int .i64 gin, .int .i64 gout, .slice ba beds.length bc, .slice sa scores.length sc, .bool won]) := Lib.hid (by rw [← hw1, hBB]; exact Blk.new w _ _)
  have HBB := Lib.hid hBB
  clear hw1 hBB
  have x0 : ∀ y : Lat (fun b _ => w1.heap.size ≤ b) w1, y.world.cell? ⟨B, 0, none⟩ = some (.int .i64 start) := fun y => (K1.out.chg y.chg (by have h := K1.out.lt; rintro ⟨_, e⟩; omega)).cell 0 rfl
  have xl := K1.out.lt
  have hlo : w1.heap.size ≤ w1.heap.size := Nat.le_refl _
  refine wp_region_sep (by kernel_rfl) [.box 0, .no, .no, .no, .no, .ptr, .no, .any] w1.heap.size
    (fun L u => [bif L 0 then Res.own w1.heap.size 111 1 (u 0) 0 [] else Res.none, bif L 5 then Res.blk (ptrAt (u 5)) (bif L 7 then #[.int .i64 start, .bool false, .bool false, .bool false] else #[.int .i64 0, .bool false, .bool false, .bool false]) else Res.none])
    (by kernel_rfl) (Nat.le_of_ble_eq_true rfl) (fun L L' u hh => by simp only [hh 0 rfl, hh 5 rfl, hh 7 rfl]) (fun _ => Frm.nones _ 2 w1) ?_
  intro T hT hne u hu
  obtain ⟨k0, u0⟩ : ∃ k, u 0 = .slice (some ⟨k, 0, none⟩) 0 0 := hu 0 rfl
  obtain ⟨k5, u5⟩ : ∃ k, u 5 = .pointer (some ⟨k, 0, none⟩) := hu 5 rfl
  clear hu
  refine lx_loud (by rfl) (by kernel_rfl) ?_ (fun K hK => ?_)
  · intro L w3 hL hd hcl hC hs
    obtain ⟨x, rfl⟩ := hC
    have hzs := x.size
    simp only [hL, cond_false] at hs
    go_wp2
    exact aft_set x hlo ⟨_, rfl⟩ hs 0 (r' := Res.own w1.heap.size 111 1 (.slice (some ⟨x.world.heap.size, 0, none⟩) 0 0) 0 []) rfl (((Ext.refl x.world).alloc _).chg _) (own_empty rfl (by omega)) (fun k hk => .inr (by cases hk; simp)) (by first | (simp [upd, updv, hL]; done) | (simp [upd, updv, hL]; rfl))
  rw [u0]
  go_simp
  with_reducible refine hK _ ?_
  clear hK K
  refine lx_next 4 (by rfl) (by decide) ?_
  dsimp only [List.take, List.drop]
  repeat (go_big_quiet_step (fail))
  refine wpQuiet_nil ?_
  refine lx_loud (by rfl) (by kernel_rfl) ?_ (fun K hK => ?_)
  · intro L w3 hL hd hcl hC hs
    obtain ⟨x, rfl⟩ := hC
    have hzs := x.size
    have h7 := hcl.off hL 40 7 (by kernel_rfl)
    simp only [hL, h7, cond_false] at hs
    go_wp2
    exact aft_set x hlo ⟨_, rfl⟩ hs 1 (r' := Res.blk x.world.heap.size #[.int .i64 0, .bool false, .bool false, .bool false]) rfl (((Ext.refl x.world).alloc _).chg _) (Blk.new _ _ _) (fun k hk => .inr (by rw [show k = x.world.heap.size from hk]; simp)) (by first | (simp [upd, updv, ptrAt, hL, h7]; done) | (simp [upd, updv, ptrAt, hL, h7]; rfl))
  rw [u5]
  go_simp
  with_reducible refine hK _ ?_
  clear hK K
  refine lx_next 1 (by rfl) (by decide) ?_
  dsimp only [List.take, List.drop]
  repeat (go_big_quiet_step (fail))
  refine wpQuiet_nil ?_
  refine lx_loud (by rfl) (by kernel_rfl) ?_ (fun K hK => ?_)
  · intro L w3 hL hd hcl hC hs
    obtain ⟨x, rfl⟩ := hC
    have hzs := x.size
    have h5 := hd 5 (by kernel_rfl)
    simp only [hL, h5, cond_true, cond_false] at hs
    rw [u5] at hs
    have hb : Blk x.world k5 #[.int .i64 0, .bool false, .bool false, .bool false] := hs.get 1 rfl
    have hlt := hb.lt
    have q0 := hb.cell 0 (v := .int .i64 0) rfl
    have f0 := hb.frozen 0
    have q1 := hb.cell 1 (v := .bool false) rfl
    have f1 := hb.frozen 1
    have q2 := hb.cell 2 (v := .bool false) rfl
    have f2 := hb.frozen 2
    have q3 := hb.cell 3 (v := .bool false) rfl
    have f3 := hb.frozen 3
    go_wp2
    exact aft_set x hlo trivial hs 1 rfl (four_chg (fun k => k = k5) _ rfl _ _ _ _) (r' := Res.blk k5 #[.int .i64 start, .bool false, .bool false, .bool false]) (four_set hb _ _ _ _) (fun _ hk => .inl hk) (by first | (simp [upd, updv, ptrAt, h5, hL, u5]; done) | (simp [upd, updv, ptrAt, h5, hL, u5]; rfl))
  go_simp
  with_reducible refine hK _ ?_
  clear hK K
  refine lx_nil ?_
  intro y hs
  rw [u0, u5] at hs
  have HS5 : Hid (Frm w1.heap.size [Res.own w1.heap.size 111 1 (.slice (some ⟨k0, 0, none⟩) 0 0) 0 [], Res.blk k5 #[.int .i64 start, .bool false, .bool false, .bool false]] y.world) := Lib.hid hs
  have HX5 : Hid (Ext w1 y.world) := Lib.hid (Chg.to_ext (Ext.refl w1) y.chg (by rintro i ⟨_, h⟩; exact h))
  clear hs hT hne u0 u5 x0 xl hlo
  generalize y.world = w5 at *
  clear y T
  have HLO : Hid (w.heap.size = B ∧ B < w1.heap.size ∧ w1.heap.size ≤ w5.heap.size ∧ w1.heap.size ≤ k5 ∧ k5 < w5.heap.size) := Lib.hid (by have h1 := HBB.out; have h2 := K1.out.lt; have h3 := HX5.out.size; have h4 := HS5.out.lt 1 rfl k5 rfl; omega)
  have HI0 : Hid (RavI start gin gout beds ba bc scores sa sc won R B k5 w1.heap.size w 0 (.slice (some ⟨k0, 0, none⟩) 0 0) [] w5) := Lib.hid ⟨Nat.zero_le _, rfl, by rw [← HRR.out, List.drop_zero]; cases rvG gin gout beds (goT start scores won scores.length) 0 <;> rfl, hst, ⟨[], HS5.out.get 0 rfl, rfl, fun i hi => absurd hi (by simp)⟩, fun q hq e => HS5.out.parts 0 1 _ _ rfl rfl (by decide) q hq e, K1.out.ext HX5.out, HS5.out.get 1 rfl, HX1.out.trans HX5.out, HX5.out.size⟩
  obtain ⟨lo, hlo⟩ : ∃ y, y = w1.heap.size := ⟨_, rfl⟩
  rw [← hlo] at HI0 HLO
  clear hlo HS5 HX5 HX1 K1
  go_wp2
  go_loopw [5, 7] (fun f i wr => ∃ (k : Nat) (v : Value) (ls : List (List Vi)), v = f ∧ i = .int .i64 k ∧ RavI start gin gout beds ba bc scores sa sc won R B k5 lo w k v ls wr) (fun _ i _ => scores.length - (intOf i).toNat)
  case atStart => exact ⟨0, _, [], rfl, rfl, HI0.out⟩
  case round =>
    obtain ⟨k, v, ls, rfl, rfl, hI⟩ := hrel
    have HI := Lib.hid hI
    obtain ⟨⟨left, inn⟩, hst'⟩ : ∃ y, stT start scores k = y := ⟨_, rfl⟩
    have hstb := hI.st
    have hlb := hI.lb
    rw [hst'] at hstb hlb
    dsimp only at hstb hlb
    have HST := Lib.hid hst'
    have HSB := Lib.hid hstb
    have HLB := Lib.hid hlb
    clear hI hst' hstb hlb
    have c4 := HI.out.box.cell 4 (v := .slice sa scores.length sc) rfl
    have c5 := HI.out.box.cell 5 (v := .bool won) rfl
    have cl := HI.out.box.lt
    by_cases hlt : k < scores.length
    · obtain ⟨xb, xo, rfl, z0⟩ := HS.out.ext HI.out.ext k hlt
      obtain ⟨x, hx⟩ : ∃ y, scores[k] = y := ⟨_, rfl⟩
      rw [hx] at z0
      have HXI : Hid (0 ≤ x ∧ I64 x) := Lib.hid (hx ▸ HSI.out _ (List.getElem_mem hlt))
      have HGD : Hid (scores.getD k 0 = x) := Lib.hid (by rw [← hx]; simp [List.getD_eq_getElem?_getD, hlt])
      obtain ⟨W, hW⟩ : ∃ b, (won && decide (k + 1 = scores.length)) = b := ⟨_, rfl⟩
      have HW := Lib.hid hW
      have HZ0 := Lib.hid z0
      have HGA : Hid (gAt start scores won k = ⟨⟨left, inn⟩, ⟨x, W⟩⟩) := Lib.hid (by unfold gAt; rw [HST.out, HGD.out, hW])
      clear hx hW z0
      go_upto_region 5 with fail
      go_cut [8] (fun b wx => b = .bool W ∧ wx = wr)
      case first =>
        have hwn : wrap64 ((scores.length : Int) - 1) = (scores.length : Int) - 1 := wrap64_in' ⟨by omega, by omega⟩
        cases won
        · obtain rfl : W = false := by rw [← HW.out]; rfl
          go_wp2
          go_meet
          exact ⟨rfl, rfl⟩
        · by_cases hk1 : k + 1 = scores.length
          · obtain rfl : W = true := by rw [← HW.out]; simp [hk1]
            have hk2 : (k : Int) = (scores.length : Int) - 1 := by omega
            have hk3 : ((k : Int) == (scores.length : Int) - 1) = true := by rw [hk2]; simp
            clear hk1 hk2
            go_wp2
            go_meet
            exact ⟨rfl, rfl⟩
          · obtain rfl : W = false := by rw [← HW.out]; simp [hk1]
            have hk2 : ¬ (k : Int) = (scores.length : Int) - 1 := by omega
            have hk3 : ((k : Int) == (scores.length : Int) - 1) = false := by simpa using hk2
            clear hk1 hk2
            go_wp2
            go_meet
            exact ⟨rfl, rfl⟩
      case rest =>
      obtain ⟨hc1, hc2⟩ := hcut
      subst hc1
      subst hc2
      obtain ⟨w2, hw2⟩ : ∃ x, x = wc := ⟨_, rfl⟩
      subst hw2
      obtain ⟨AL, hAL⟩ : ∃ y, allOf gin gout beds (gAt start scores won k) = y := ⟨_, rfl⟩
      have HAL := Lib.hid hAL
      have hC : ∀ Wd, Ext w2 Wd → Calls Try.prog 55 #[.agg #[.int .i64 start, .int .i64 gin, .int .i64 gout, .slice ba beds.length bc, .slice (some ⟨xb, xo, none⟩) scores.length sc, .bool won], .agg #[.int .i64 left, .bool inn, .bool false, .bool false], .agg #[.int .i64 left, .bool inn, .bool false, .bool false], .agg #[.slice none 0 0, .int .i64 0], .int .i64 x, .bool W, .slice none 0 0] Wd fun e w' => ∃ v' c', e = .returned (.slice v' AL.length c') ∧ VLs w' w2.heap.size (.slice v' AL.length c') AL ∧ Ext Wd w' := fun Wd hx => by
        have h := ref_All start gin gout beds ba bc (some ⟨xb, xo, none⟩) scores.length sc won left inn x W hg hgo hB hn9 (by have := HLB.out; omega) 3 left inn 0 [] none 0 0 w2.heap.size (.slice none 0 0) [] Wd rfl (by have := HLB.out; omega) ⟨Int.le_refl _, by decide⟩ (.inl rfl) (CellsB.of (HR.out.ext HI.out.ext) hx) (OwnD.nil _ _) (VLs.nil _ _) hx.size (by decide)
        refine h.mono ?_
        rintro e w' ⟨v', rfl, h1, h2, -⟩
        have hA : AL = [] ++ allF gin gout beds left x W 3 left inn 0 [] 0 := by rw [← HAL.out, HGA.out]; rfl
        rw [← hA] at h1
        obtain ⟨a, c, rfl⟩ := h1.shape
        exact ⟨a, c, rfl, h1, Chg.to_ext (Ext.refl _) h2 (fun i h => by cases h)⟩
      have HC := Lib.hid hC
      clear hC hAL c4 c5 cl
      have m0 : ∀ y : Lat NoX w2, y.world.cell? ⟨B, 0, none⟩ = some (.int .i64 start) := fun y => (HI.out.box.ext (Lat.ext0 y)).cell 0 rfl
      have m1 : ∀ y : Lat NoX w2, y.world.cell? ⟨B, 1, none⟩ = some (.int .i64 gin) := fun y => (HI.out.box.ext (Lat.ext0 y)).cell 1 rfl
      have m2 : ∀ y : Lat NoX w2, y.world.cell? ⟨B, 2, none⟩ = some (.int .i64 gout) := fun y => (HI.out.box.ext (Lat.ext0 y)).cell 2 rfl
      have m3 : ∀ y : Lat NoX w2, y.world.cell? ⟨B, 3, none⟩ = some (.slice ba beds.length bc) := fun y => (HI.out.box.ext (Lat.ext0 y)).cell 3 rfl
      have m4 : ∀ y : Lat NoX w2, y.world.cell? ⟨B, 4, none⟩ = some (.slice (some ⟨xb, xo, none⟩) scores.length sc) := fun y => (HI.out.box.ext (Lat.ext0 y)).cell 4 rfl
      have m5 : ∀ y : Lat NoX w2, y.world.cell? ⟨B, 5, none⟩ = some (.bool won) := fun y => (HI.out.box.ext (Lat.ext0 y)).cell 5 rfl
      have ml := HI.out.box.lt
      have s0 : ∀ y : Lat NoX w2, y.world.cell? ⟨k5, 0, none⟩ = some (.int .i64 left) := fun y => (HSB.out.ext (Lat.ext0 y)).cell 0 rfl
      have s1 : ∀ y : Lat NoX w2, y.world.cell? ⟨k5, 1, none⟩ = some (.bool inn) := fun y => (HSB.out.ext (Lat.ext0 y)).cell 1 rfl
      have s2 : ∀ y : Lat NoX w2, y.world.cell? ⟨k5, 2, none⟩ = some (.bool false) := fun y => (HSB.out.ext (Lat.ext0 y)).cell 2 rfl
      have s3 : ∀ y : Lat NoX w2, y.world.cell? ⟨k5, 3, none⟩ = some (.bool false) := fun y => (HSB.out.ext (Lat.ext0 y)).cell 3 rfl
      have sl := HSB.out.lt
      have z0 : ∀ y : Lat NoX w2, y.world.cell? ⟨xb, xo + k, none⟩ = some (.int .i64 x) := fun y => (Lat.ext0 y).cell HZ0.out
      have zl := lt_of_cell HZ0.out
      simp only at zl
      go_upto_region 6 with fail
      refine wp_region_lat (by kernel_rfl) NoX (fun k => k == 10) (fun k v => k = 10 → ∃ a c, v = .slice a AL.length c) (fun L u W' => L 10 = true → VLs W' w2.heap.size (u 10) AL) (by kernel_rfl)
        (fun k hk => by rw [eq_of_beq hk]; decide) (fun L L' u w' h hg e => hg ((h 10 rfl) ▸ e)) (fun L u a b h hx e => (h e).ext hx) (fun _ => .slice none AL.length 0) (fun k _ _ => ⟨none, 0, rfl⟩) (fun h => by cases h) ?_
      intro T hT hne2 u hu
      obtain ⟨a10, c10, u10⟩ := hu 10 rfl rfl
      refine lx_next 10 (by rfl) (by decide) ?_
      dsimp only [List.take, List.drop]
      repeat (go_big_quiet_step (fail))
      refine wpQuiet_nil ?_
      refine lx_loud (by rfl) (by kernel_rfl) ?_ (fun K hK => ?_)
      · intro L w3 hL hd hcl hC hs
        obtain ⟨x, rfl⟩ := hC
        have hzs := x.size
        have hX : Ext w2 x.world := Lat.ext0 x
        clear hs hd hcl
        go_wp2_with fail
        refine (HC.out _ hX).mono ?_
        rintro e w' ⟨a', c', rfl, h1, h2⟩
        have H1 := Lib.hid h1
        have H2 := Lib.hid h2
        clear h1 h2
        go_wp2
        refine ⟨by first | exact ⟨_, _, rfl⟩ | exact fun _ => ⟨_, _, rfl⟩, ⟨x.ext H2.out, rfl⟩, ?_⟩
        first | exact fun _ => H1.out | exact H1.out
      rw [u10]
      go_simp
      with_reducible refine hK _ ?_
      clear hK K
      refine lx_next 1 (by rfl) (by decide) ?_
      dsimp only [List.take, List.drop]
      repeat (go_big_quiet_step (fail))
      refine wpQuiet_nil ?_
      refine lx_nil ?_
      intro y hs
      have hv := hs rfl
      rw [u10] at hv
      have HV := Lib.hid hv
      have HX2 : Hid (Ext w2 y.world) := Lib.hid (Lat.ext0 y)
      clear hs hv hT hne2 u10 m0 m1 m2 m3 m4 m5 ml s0 s1 s2 s3 sl z0 zl hu
      generalize y.world = w6 at *
      clear y T
      obtain ⟨m, hm⟩ : ∃ m, AL.length = m := ⟨_, rfl⟩
      rw [hm] at HV ⊢
      have HM := Lib.hid hm
      clear hm
      by_cases hm0 : m = 0
      · subst hm0
        have HRE : Hid (R = .inr k) := Lib.hid (by rw [HI.out.res]; exact rvG_stop (goT_get hlt) ls (by rw [HAL.out]; exact List.length_eq_zero_iff.1 HM.out))
        go_wp2
        refine bodyPost_ret (v := .tuple #[.slice none 0 0, .int .i64 k, .bool false]) (by simp [results, Try.results20, go_sem]) rfl ⟨by rw [HRE.out]; rfl, HI.out.ext.trans HX2.out⟩
      have hmi : ¬ ((m : Int) = 0) := by omega
      have HNE : Hid (allOf gin gout beds (gAt start scores won k) ≠ []) := Lib.hid (by rw [HAL.out]; rintro rfl; exact hm0 HM.out.symm)
      have hab := all_bounds hB (by rw [HGA.out]; exact HLB.out.1) HNE.out
      rw [HGA.out] at hab
      have HAB : Hid (0 ≤ x ∧ x ≤ left) := Lib.hid hab
      have HRN : Hid (R = cmbF (ls ++ [AL]) (rvG gin gout beds ((goT start scores won scores.length).drop (k + 1)) (k + 1))) := Lib.hid (by rw [HI.out.res, rvG_drop (goT_get hlt) ls HNE.out, HAL.out])
      have HX6 := Lib.hid (HI.out.ext.trans HX2.out)
      have HSZ6 := Lib.hid (Nat.le_trans HI.out.size HX2.out.size)
      obtain ⟨vals, hv1, hv2, hv3⟩ := HI.out.row.ext (HX2.out.alloc (.cells #[.slice a10 m c10] 111))
      rw [HI.out.len] at hv1
      have HV1 := Lib.hid hv1
      have HV2 := Lib.hid hv2
      have HV3 := Lib.hid hv3
      have hk1000 : k ≤ 1000 := by omega
      clear hv1 hv2 hv3 hm0 hab
      go_wp2_with (at_builtin; refine wp_append_from rfl _ _ 38 111 _ 1 24 rfl info_vrow (by kernel_rfl) rfl (by decide) lo v k vals rfl HV1.out (some ⟨w6.heap.size, 0, none⟩) 1 1 [.slice a10 m c10] rfl (fun h => by cases h) rfl ?_ ?_ (by omega) (by omega) (by have h1 := HSZ6.out; simp; omega) ?_)
      · intro ad had j u hj
        cases had
        match j, hj with
        | 0, hj => cases hj; rw [addr_add]; exact (Blk.new w6 _ _).cell 0 rfl
      · intro u hu
        cases hu with
        | head => rfl
        | tail _ h => cases h
      intro v8 w8 hO8 hg8 hn8
      have HROW : Hid (VRs w8 lo (k5 + 1) v8 (ls ++ [AL])) := Lib.hid (VRs.snoc (by rw [HI.out.len]; exact HV1.out) HV2.out HV3.out (by rw [HM.out]; exact (HV.out.mono (by have h1 := HSB.out.lt; omega)).ext ((Ext.refl w6).alloc _)) (by rw [HI.out.len, HM.out]; exact hO8) hg8)
      have hnb : ∀ q, v8.ownBlock = some q → q ≠ k5 := fun q hq => by
        rcases hn8 q hq with h | h
        · exact HI.out.ne q h
        · have h1 := HSB.out.lt
          have h2 := HX2.out.size
          have h3 := h.1
          omega
      have HNB := Lib.hid hnb
      have hch : Chg (fun q => v.ownBlock = some q) w6 w8 := (((Ext.refl w6).alloc (.cells #[.slice a10 m c10] 111)).chg _).trans hg8
      have HVL : Hid (∀ q, v.ownBlock = some q → lo ≤ q) := Lib.hid (fun q hq => (World.ownsRow.lt HV1.out q hq).1)
      have HX8 : Hid (Ext w w8) := Lib.hid (Chg.to_ext HX6.out hch (fun i hi => by have h1 := HVL.out i hi; have h2 := HLO.out; omega))
      have HBX8 := Lib.hid ((HI.out.box.ext HX2.out).chg hch (fun e => by have h1 := HVL.out B e; have h2 := HLO.out; omega))
      have HST8 := Lib.hid ((HSB.out.ext HX2.out).chg hch (fun e => HI.out.ne k5 e rfl))
      have HSZ8 := Lib.hid (Nat.le_trans HSZ6.out hch.size)
      have HZ8 := Lib.hid ((HX2.out.cell HZ0.out))
      have HZ9 : Hid (w8.cell? ⟨xb, xo + k, none⟩ = some (.int .i64 x)) := Lib.hid (by
        obtain ⟨b', o', e1, h1⟩ := HS.out k hlt
        cases e1
        have h2 := HX8.out.cell h1
        have h3 := HI.out.ext.cell h1
        rw [HZ0.out] at h3
        rw [h2, h3])
      have HZB : Hid (xb < w.heap.size) := Lib.hid (by
        obtain ⟨b', o', e1, h1⟩ := HS.out k hlt
        cases e1
        exact lt_of_cell h1)
      clear hO8 hg8 hn8 hnb hch
      have hwl : wrap64 (left - x) = left - x := wrap64_in' ⟨by have := HAB.out; have := HLB.out; omega, by have := HAB.out; have := HLB.out; omega⟩
      have m4 : ∀ y : Lat (fun b _ => b = k5) w8, y.world.cell? ⟨B, 4, none⟩ = some (.slice (some ⟨xb, xo, none⟩) scores.length sc) := fun y => (HBX8.out.chg y.chg (by have h := HLO.out; rintro ⟨_, e⟩; omega)).cell 4 rfl
      have z0 : ∀ y : Lat (fun b _ => b = k5) w8, y.world.cell? ⟨xb, xo + k, none⟩ = some (.int .i64 x) := fun y => y.chg.cell HZ9.out (by have h := HLO.out; have h2 := HZB.out; rintro ⟨_, e⟩; simp only at e; omega)
      have ml := HBX8.out.lt
      have zl := lt_of_cell HZ9.out
      simp only at zl
      cases inn
      · go_upto_region 10 with fail
        refine wp_region_lat (by kernel_rfl) (fun b _ => b = k5) (fun k => (k == 1) || ((k == 9) || ((k == 19)))) (RsIs [(1, .int .i64 left), (9, .bool false)]) (fun L _ W => Blk W k5 (bif L 19 then #[.int .i64 (left - x), .bool (decide (0 < x)), .bool false, .bool false] else #[.int .i64 left, .bool false, .bool false, .bool false])) (by kernel_rfl)
          (fun k hk => by
            simp only [Bool.or_eq_true, beq_iff_eq] at hk
            rcases hk with rfl | rfl | rfl <;> decide)
          (fun L L' u w' h hg => by first | (rw [h 19 (by rfl)]; exact hg) | exact hg) (fun L u a b h hx => h.ext hx) (rsW [(1, .int .i64 left), (9, .bool false)]) (fun k _ => rsW_ok _ k) (HST8.out.ext (Ext.refl w8).drew) ?_
        intro T hT hne2 u hu
        have e_1 : u 1 = .int .i64 left := hu 1 rfl
        have e_9 : u 9 = .bool false := hu 9 rfl
        refine lx_next 1 (by rfl) (by decide) ?_
        dsimp only [List.take, List.drop]
        repeat (go_big_quiet_step (fail))
        refine wpQuiet_nil ?_
        refine lx_loud (by rfl) (by kernel_rfl) ?_ (fun K hK => ?_)
        · intro L w4 hL hd hcl hC hs
          obtain ⟨y, rfl⟩ := hC
          have d19 := hcl.off hL 40 19 (by kernel_rfl)
          rw [d19] at hs
          have hs : Blk y.world k5 #[.int .i64 left, .bool false, .bool false, .bool false] := hs
          have r0 := hs.cell 0 (v := .int .i64 left) rfl
          have rl := hs.lt
          have HS := Lib.hid hs
          have D19 := Lib.hid d19
          have HLL := Lib.hid hL
          clear hs hd hcl hL d19
          go_wp2
          exact ⟨rfl, ⟨y, rfl⟩, by first | (rw [show upd L 1 19 = L 19 from rfl, D19.out]; exact HS.out) | exact HS.out⟩
        rw [e_1]
        go_simp
        with_reducible refine hK _ ?_
        clear hK K
        refine lx_next 7 (by rfl) (by decide) ?_
        dsimp only [List.take, List.drop]
        repeat (go_big_quiet_step (fail))
        refine wpQuiet_nil ?_
        refine lx_loud (by rfl) (by kernel_rfl) ?_ (fun K hK => ?_)
        · intro L w4 hL hd hcl hC hs
          obtain ⟨y, rfl⟩ := hC
          have d19 := hcl.off hL 40 19 (by kernel_rfl)
          rw [d19] at hs
          have hs : Blk y.world k5 #[.int .i64 left, .bool false, .bool false, .bool false] := hs
          have r0 := hs.cell 1 (v := .bool false) rfl
          have rl := hs.lt
          have HS := Lib.hid hs
          have D19 := Lib.hid d19
          have HLL := Lib.hid hL
          clear hs hd hcl hL d19
          go_wp2
          exact ⟨rfl, ⟨y, rfl⟩, by first | (rw [show upd L 9 19 = L 19 from rfl, D19.out]; exact HS.out) | exact HS.out⟩
        rw [e_9]
        go_simp
        with_reducible refine hK _ ?_
        clear hK K
        refine lx_next 9 (by rfl) (by decide) ?_
        dsimp only [List.take, List.drop]
        repeat (go_big_quiet_step (fail))
        refine wpQuiet_nil ?_
        refine lx_loud (by rfl) (by kernel_rfl) ?_ (fun K hK => ?_)
        · intro L w4 hL hd hcl hC hs
          obtain ⟨y, rfl⟩ := hC
          rw [hL] at hs
          have hs : Blk y.world k5 #[.int .i64 left, .bool false, .bool false, .bool false] := hs
          have r0 := hs.cell 0 (v := .int .i64 left) rfl
          have r1 := hs.cell 1 (v := .bool false) rfl
          have r2 := hs.cell 2 (v := .bool false) rfl
          have r3 := hs.cell 3 (v := .bool false) rfl
          have rf0 := hs.frozen 0
          have rf1 := hs.frozen 1
          have rf2 := hs.frozen 2
          have rf3 := hs.frozen 3
          have rl := hs.lt
          have HS := Lib.hid hs
          have HLL := Lib.hid hL
          clear hs hd hcl hL
          go_wp2
          have hb0 : Blk _ k5 #[.int .i64 (left - x), .bool false, .bool false, .bool false] := HS.out.set 0 (.int .i64 (left - x))
          have hb1 : Blk _ k5 #[.int .i64 (left - x), .bool (decide (0 < x)), .bool false, .bool false] := hb0.set 1 (.bool (decide (0 < x)))
          have hb2 : Blk _ k5 #[.int .i64 (left - x), .bool (decide (0 < x)), .bool false, .bool false] := hb1.set 2 (.bool false)
          have hb3 : Blk _ k5 #[.int .i64 (left - x), .bool (decide (0 < x)), .bool false, .bool false] := hb2.set 3 (.bool false)
          exact ⟨trivial, ⟨y.chgd (((((Chg.refl (· = k5) y.world).setCell (.inr rfl) (.int .i64 (left - x))).setCell (.inr rfl) (.bool (decide (0 < x)))).setCell (.inr rfl) (.bool false)).setCell (.inr rfl) (.bool false)) (fun b hb => .inr fun _ => hb), rfl⟩, by first | (rw [show upd L 19 19 = true from rfl]; exact hb3) | exact hb0⟩
        go_simp
        with_reducible refine hK _ ?_
        clear hK K
        refine lx_nil ?_
        intro y hs
        have HT9 : Hid (Blk y.world k5 #[.int .i64 (left - x), .bool (decide (0 < x)), .bool false, .bool false]) := Lib.hid hs
        have HCw9 : Hid (Chg (· = k5) w8 y.world) := Lib.hid (y.chg.mono (by rintro q - ⟨_, e⟩; exact e))
        clear hs hu hT hne2 e_1 e_9 m4 z0 ml zl
        generalize y.world = w9 at *
        clear y
        have hs9 : stT start scores (k + 1) = ⟨left - x, decide (0 < x)⟩ := by
          show (⟨wrap64 ((stT start scores k).left - scores.getD k 0), (stT start scores k).inn || decide (0 < scores.getD k 0)⟩ : Sd) = _
          rw [HST.out, HGD.out]
          dsimp only
          rw [hwl]
          rfl
        have HI9 : Hid (RavI start gin gout beds ba bc scores (some ⟨xb, xo, none⟩) sc won R B k5 lo w (k + 1) v8 (ls ++ [AL]) w9) := Lib.hid ⟨hlt, by simp [HI.out.len], HRN.out, by rw [hs9]; have h1 := HAB.out; have h2 := HLB.out; show 0 ≤ left - x ∧ left - x ≤ 1001; omega, HROW.out.low HCw9.out (fun q hq e => HNB.out q hq e) (fun q hq e => by have h : q = k5 := e; omega), HNB.out, HBX8.out.chg HCw9.out (by have h := HLO.out; omega), by rw [hs9]; exact HT9.out, Chg.to_ext HX8.out HCw9.out (fun i h => by have h1 := HLO.out; have h' : i = k5 := h; omega), Nat.le_trans HSZ8.out HCw9.out.size⟩
        clear hs9 hwl
        go_wp2
        go_roundw
        case rel => exact ⟨k + 1, v8, ls ++ [AL], by first | rfl | simp, by go_num, HI9.out⟩
        case measure => simp [intOf]; omega
      · go_upto_region 10 with fail
        refine wp_region_lat (by kernel_rfl) (fun b _ => b = k5) (fun k => (k == 1) || ((k == 9) || ((k == 19)))) (RsIs [(1, .int .i64 left), (9, .bool true)]) (fun L _ W => Blk W k5 (bif L 19 then #[.int .i64 (left - x), .bool (true), .bool false, .bool false] else #[.int .i64 left, .bool true, .bool false, .bool false])) (by kernel_rfl)
          (fun k hk => by
            simp only [Bool.or_eq_true, beq_iff_eq] at hk
            rcases hk with rfl | rfl | rfl <;> decide)
          (fun L L' u w' h hg => by first | (rw [h 19 (by rfl)]; exact hg) | exact hg) (fun L u a b h hx => h.ext hx) (rsW [(1, .int .i64 left), (9, .bool true)]) (fun k _ => rsW_ok _ k) (HST8.out.ext (Ext.refl w8).drew) ?_
        intro T hT hne2 u hu
        have e_1 : u 1 = .int .i64 left := hu 1 rfl
        have e_9 : u 9 = .bool true := hu 9 rfl
        refine lx_next 1 (by rfl) (by decide) ?_
        dsimp only [List.take, List.drop]
        repeat (go_big_quiet_step (fail))
        refine wpQuiet_nil ?_
        refine lx_loud (by rfl) (by kernel_rfl) ?_ (fun K hK => ?_)
        · intro L w4 hL hd hcl hC hs
          obtain ⟨y, rfl⟩ := hC
          have d19 := hcl.off hL 40 19 (by kernel_rfl)
          rw [d19] at hs
          have hs : Blk y.world k5 #[.int .i64 left, .bool true, .bool false, .bool false] := hs
          have r0 := hs.cell 0 (v := .int .i64 left) rfl
          have rl := hs.lt
          have HS := Lib.hid hs
          have D19 := Lib.hid d19
          have HLL := Lib.hid hL
          clear hs hd hcl hL d19
          go_wp2
          exact ⟨rfl, ⟨y, rfl⟩, by first | (rw [show upd L 1 19 = L 19 from rfl, D19.out]; exact HS.out) | exact HS.out⟩
        rw [e_1]
        go_simp
        with_reducible refine hK _ ?_
        clear hK K
        refine lx_next 7 (by rfl) (by decide) ?_
        dsimp only [List.take, List.drop]
        repeat (go_big_quiet_step (fail))
        refine wpQuiet_nil ?_
        refine lx_loud (by rfl) (by kernel_rfl) ?_ (fun K hK => ?_)
        · intro L w4 hL hd hcl hC hs
          obtain ⟨y, rfl⟩ := hC
          have d19 := hcl.off hL 40 19 (by kernel_rfl)
          rw [d19] at hs
          have hs : Blk y.world k5 #[.int .i64 left, .bool true, .bool false, .bool false] := hs
          have r0 := hs.cell 1 (v := .bool true) rfl
          have rl := hs.lt
          have HS := Lib.hid hs
          have D19 := Lib.hid d19
          have HLL := Lib.hid hL
          clear hs hd hcl hL d19
          go_wp2
          exact ⟨rfl, ⟨y, rfl⟩, by first | (rw [show upd L 9 19 = L 19 from rfl, D19.out]; exact HS.out) | exact HS.out⟩
        rw [e_9]
        go_simp
        with_reducible refine hK _ ?_
        clear hK K
        refine lx_next 9 (by rfl) (by decide) ?_
        dsimp only [List.take, List.drop]
        repeat (go_big_quiet_step (fail))
        refine wpQuiet_nil ?_
        refine lx_loud (by rfl) (by kernel_rfl) ?_ (fun K hK => ?_)
        · intro L w4 hL hd hcl hC hs
          obtain ⟨y, rfl⟩ := hC
          rw [hL] at hs
          have hs : Blk y.world k5 #[.int .i64 left, .bool true, .bool false, .bool false] := hs
          have r0 := hs.cell 0 (v := .int .i64 left) rfl
          have r1 := hs.cell 1 (v := .bool true) rfl
          have r2 := hs.cell 2 (v := .bool false) rfl
          have r3 := hs.cell 3 (v := .bool false) rfl
          have rf0 := hs.frozen 0
          have rf1 := hs.frozen 1
          have rf2 := hs.frozen 2
          have rf3 := hs.frozen 3
          have rl := hs.lt
          have HS := Lib.hid hs
          have HLL := Lib.hid hL
          clear hs hd hcl hL
          go_wp2
          have hb0 : Blk _ k5 #[.int .i64 (left - x), .bool true, .bool false, .bool false] := HS.out.set 0 (.int .i64 (left - x))
          have hb1 : Blk _ k5 #[.int .i64 (left - x), .bool (true), .bool false, .bool false] := hb0.set 1 (.bool (true))
          have hb2 : Blk _ k5 #[.int .i64 (left - x), .bool (true), .bool false, .bool false] := hb1.set 2 (.bool false)
          have hb3 : Blk _ k5 #[.int .i64 (left - x), .bool (true), .bool false, .bool false] := hb2.set 3 (.bool false)
          exact ⟨trivial, ⟨y.chgd (((((Chg.refl (· = k5) y.world).setCell (.inr rfl) (.int .i64 (left - x))).setCell (.inr rfl) (.bool (true))).setCell (.inr rfl) (.bool false)).setCell (.inr rfl) (.bool false)) (fun b hb => .inr fun _ => hb), rfl⟩, by first | (rw [show upd L 19 19 = true from rfl]; exact hb3) | exact hb0⟩
        go_simp
        with_reducible refine hK _ ?_
        clear hK K
        refine lx_nil ?_
        intro y hs
        have HT9 : Hid (Blk y.world k5 #[.int .i64 (left - x), .bool (true), .bool false, .bool false]) := Lib.hid hs
        have HCw9 : Hid (Chg (· = k5) w8 y.world) := Lib.hid (y.chg.mono (by rintro q - ⟨_, e⟩; exact e))
        clear hs hu hT hne2 e_1 e_9 m4 z0 ml zl
        generalize y.world = w9 at *
        clear y
        have hs9 : stT start scores (k + 1) = ⟨left - x, true⟩ := by
          show (⟨wrap64 ((stT start scores k).left - scores.getD k 0), (stT start scores k).inn || decide (0 < scores.getD k 0)⟩ : Sd) = _
          rw [HST.out, HGD.out]
          dsimp only
          rw [hwl]
          rfl
        have HI9 : Hid (RavI start gin gout beds ba bc scores (some ⟨xb, xo, none⟩) sc won R B k5 lo w (k + 1) v8 (ls ++ [AL]) w9) := Lib.hid ⟨hlt, by simp [HI.out.len], HRN.out, by rw [hs9]; have h1 := HAB.out; have h2 := HLB.out; show 0 ≤ left - x ∧ left - x ≤ 1001; omega, HROW.out.low HCw9.out (fun q hq e => HNB.out q hq e) (fun q hq e => by have h : q = k5 := e; omega), HNB.out, HBX8.out.chg HCw9.out (by have h := HLO.out; omega), by rw [hs9]; exact HT9.out, Chg.to_ext HX8.out HCw9.out (fun i h => by have h1 := HLO.out; have h' : i = k5 := h; omega), Nat.le_trans HSZ8.out HCw9.out.size⟩
        clear hs9 hwl
        go_wp2
        go_roundw
        case rel => exact ⟨k + 1, v8, ls ++ [AL], by first | rfl | simp, by go_num, HI9.out⟩
        case measure => simp [intOf]; omega
    · obtain rfl : k = scores.length := by have := HI.out.le; omega
      have HRE : Hid (R = .inl ls) := Lib.hid (by rw [HI.out.res, List.drop_eq_nil_of_le (by rw [goT_len]; exact Nat.le_refl _)]; simp [rvG, cmbF])
      go_wp2
      refine bodyPost_ret (v := .tuple #[v, .int .i64 0, .bool true]) (by simp [results, Try.results20, go_sem]) rfl ⟨?_, HI.out.ext⟩
      rw [HRE.out]
      exact ⟨v, k5 + 1, rfl, ⟨_, own_mono HI.out.row.choose_spec.1 (by have := HLO.out; omega), HI.out.row.choose_spec.2⟩, by have := HLO.out; omega⟩
end Go.Proofs.Ytmopadnkjlodnaa
