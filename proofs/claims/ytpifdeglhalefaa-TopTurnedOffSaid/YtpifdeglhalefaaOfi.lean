/-
  Package leg: Off.
-/
import Derived.Test.YtpifdeglhalefaaLegE
import Derived.Test.YtpifdeglhalefaaSen
namespace Go.Proofs.Ytpifdeglhalefaa
open Go.RowKit Go.BigFrame
attribute [local go_sem] Later.cell Later.frozen
def Toss.ok (o : Toss) : Bool := validB o.bed && ins 0 10000 [o.far]
theorem off_isValid (o : Toss) (w : World) (hb : I64 o.bed) : Calls Try.prog 34 #[.agg #[.int .i64 o.bed, .int .i64 o.far]] w fun e w' => e = .returned (.bool o.ok) ∧ Ext w w' := by
  obtain ⟨bed, far⟩ := o
  go_enter Try.func34, Try.ntmps34
  go_wp2_with fail
  refine (dart_isValid bed _ hb).mono ?_
  rintro e w1 ⟨rfl, hx1⟩
  have hb1 : Blk w1 w.heap.size #[.int .i64 bed, .int .i64 far] := (Blk.at _ (by simp)).ext hx1
  have hE := ((Ext.refl w).alloc (.cells #[.int .i64 bed, .int .i64 far] 103)).trans hx1
  clear hx1
  have hlt := hb1.lt
  have k1 := hb1.cell 1 (v := .int .i64 far) rfl
  cases h1 : validB bed
  · go_wp2
    go_ret
    exact ⟨ret_bool (by simp only [Toss.ok, h1, Bool.false_and]), hE⟩
  · go_wp2_with fail
    refine (leg_within_1 _ _ _ _ _ (by simp)).mono ?_
    rintro e w2 ⟨rfl, hx2⟩
    go_wp2
    go_ret
    exact ⟨ret_bool (by simp only [Toss.ok, h1, Bool.true_and]), hE.trans hx2⟩
theorem off1 (o : Toss) (w : World) (hb : I64 o.bed) : Calls Try.prog 33 #[o.agg] w fun e w' => e = .returned (.bool (!o.ok)) ∧ Ext w w' := by
  have h := off_isValid o
  obtain ⟨bed, far⟩ := o
  unfold Toss.agg
  go_enter Try.func33, Try.ntmps33
  go_wp2_with fail
  refine (h _ hb).mono ?_
  rintro e w1 ⟨rfl, hx1⟩
  go_wp2
  go_ret
  exact ⟨rfl, ((Ext.refl w).alloc _).trans hx1⟩
theorem enters_off1 : Enters Try.prog 33 := enters_of Try.func33 (by kernel_rfl) rfl
/-- How good a dart is: the less the better. -/
def Toss.rank (o : Toss) : Int := if o.bed = 225 then -2 else if o.bed = 125 then -1 else if o.bed = 0 then 10001 else o.far
theorem off_rank (o : Toss) (w : World) : Calls Try.prog 61 #[.agg #[.int .i64 o.bed, .int .i64 o.far]] w fun e w' => e = .returned (.int .i64 o.rank) ∧ Ext w w' := by
  obtain ⟨bed, far⟩ := o
  generalize hi : idx (bed == ·) [225, 125] = i
  go_enter Try.func61, Try.ntmps61
  go_wp2
  refine wp_region_later (by kernel_rfl) (by kernel_rfl) ?_
  repeat (go_big_quiet_step (refine Calls.later (index_b bed [225, 125] _ _ _ (CellsAt.ext (CellsAt.two _ _ _ _ (by simp)) (Later.ext _)) (by simp))))
  refine wpQuiet_nil ?_
  intro w1 hw1
  obtain ⟨⟨w1, hx1⟩, rfl⟩ := hw1
  have hb1 : Blk w1 w.heap.size #[.int .i64 bed, .int .i64 far] := ((Blk.at _ (by simp)).alloc _).ext hx1
  have hE := (((Ext.refl w).alloc _).alloc _).trans hx1
  clear hx1
  have hlt := hb1.lt
  have k0 := hb1.cell 0 (v := .int .i64 bed) rfl
  have k1 := hb1.cell 1 (v := .int .i64 far) rfl
  rw [hi]
  by_cases h1 : bed = 225
  · obtain rfl : i = 0 := by rw [← hi, h1]; rfl
    go_wp2
    go_ret
    exact ⟨ret_int (by simp [Toss.rank, h1]), hE⟩
  · by_cases h2 : bed = 125
    · obtain rfl : i = 1 := by rw [← hi, h2]; rfl
      go_wp2
      go_ret
      exact ⟨ret_int (by simp [Toss.rank, h2]), hE⟩
    · obtain rfl : i = -1 := by rw [← hi]; simp [idx, h1, h2]
      cases h3 : bed == 0
      · go_wp2
        go_ret
        exact ⟨ret_int (by simp only [Toss.rank, h1, h2, if_false]; rw [if_neg (by simpa using h3)]), hE⟩
      · go_wp2
        go_ret
        exact ⟨ret_int (by obtain rfl : bed = 0 := by simpa using h3
                           rfl), hE⟩
theorem Toss.rank_bounds {o : Toss} (_h : I64 o.far) (h2 : 0 ≤ o.far ∧ o.far ≤ 10000) : -2 ≤ o.rank ∧ o.rank ≤ 10001 := by
  unfold Toss.rank; split; omega; split; omega; split <;> omega
theorem best1 (x y : Toss) (w : World) (hx : -2 ≤ x.rank ∧ x.rank ≤ 10001) (hy : -2 ≤ y.rank ∧ y.rank ≤ 10001) : Calls Try.prog 60 #[x.agg, y.agg] w fun e w' => e = .returned (.int .i64 (x.rank - y.rank)) ∧ Ext w w' := by
  have h1 := off_rank x
  have h2 := off_rank y
  have hw : wrap64 (x.rank - y.rank) = x.rank - y.rank := wrap64_in' ⟨by omega, by omega⟩
  generalize x.rank = rx at *
  generalize y.rank = ry at *
  obtain ⟨b1, f1⟩ := x
  obtain ⟨b2, f2⟩ := y
  unfold Toss.agg
  go_enter Try.func60, Try.ntmps60
  have H1 := Lib.hid h1
  have H2 := Lib.hid h2
  clear h1 h2
  go_wp2
  refine wp_region_later (by kernel_rfl) (by kernel_rfl) ?_
  repeat (go_big_quiet_step (first | with_reducible refine Calls.later (H1.out _) | with_reducible refine Calls.later (H2.out _)))
  refine wpQuiet_nil ?_
  intro w1 hw1
  obtain ⟨⟨w1, hx1⟩, rfl⟩ := hw1
  go_wp2
  go_ret
  exact ⟨rfl, (((Ext.refl w).alloc _).alloc _).trans hx1⟩
theorem enters_best1 : Enters Try.prog 60 := enters_of Try.func60 (by kernel_rfl) rfl
end Go.Proofs.Ytpifdeglhalefaa
namespace Go.Proofs.Ytpifdeglhalefaa
open Go.RowKit Go.BigFrame
attribute [local go_sem] Later.cell Later.frozen
/-- The first of the least ones. -/
def minT : Toss → List Toss → Toss
  | m, [] => m
  | m, x :: l => minT (if x.rank < m.rank then x else m) l
def Toss.Fit (o : Toss) : Prop := I64 o.bed ∧ (0 ≤ o.far ∧ o.far ≤ 10000)
theorem Toss.Fit.rank {o : Toss} (h : o.Fit) : -2 ≤ o.rank ∧ o.rank ≤ 10001 := Toss.rank_bounds ⟨by have := h.2; omega, by have := h.2; omega⟩ h.2
set_option maxHeartbeats 1000000 in
theorem minFunc_best (l : List Toss) (a : Option Addr) (c : Nat) (w : World) (ha : TossAt w a l) (hl : 0 < l.length) (hlen : l.length ≤ 1000000000000) (hf : ∀ x ∈ l, x.Fit) (T : Toss) (hT : minT l[0] (l.drop 1) = T) :
    Calls Try.prog 59 #[.slice a l.length c, .func (.func 60) #[] #[]] w fun e w' => e = .returned T.agg ∧ Ext w w' := by
  have HT := Lib.hid hT
  have hA := Lib.hid ha
  have hF := Lib.hid hf
  have hE := enters_best1
  unfold Enters at hE
  obtain ⟨b, off, rfl, k0, k1⟩ := ha 0 hl
  simp only [Nat.zero_mul, Nat.add_zero] at k0 k1
  have hf0 := hf _ (List.getElem_mem hl)
  generalize l[0] = m0 at *
  obtain ⟨mb, mf⟩ := m0
  clear hT ha hf
  have hbl : b < w.heap.size := lt_of_cell k0
  go_enter Try.func59, Try.ntmps59
  go_wp2
  go_loopw [6] (fun i wr => ∃ (k : Nat) (m : Toss), 1 ≤ k ∧ k ≤ l.length ∧ i = .int .i64 k ∧ minT m (l.drop k) = T ∧ m.Fit ∧ Blk wr (w.heap.size + 1) #[.int .i64 m.bed, .int .i64 m.far] ∧ Blk wr w.heap.size #[.int .i64 0, .int .i64 0] ∧ Ext w wr) (fun i _ => l.length - (intOf i).toNat)
  case atStart => exact ⟨1, ⟨mb, mf⟩, Nat.le_refl _, hl, rfl, HT.out, hf0, Blk.at _ (by simp), (Blk.at _ (by simp)).alloc _, ((Ext.refl w).alloc _).alloc _⟩
  case round =>
    obtain ⟨k, m, hk1, hk, rfl, hS, hm, hV, hZ, hx⟩ := hrel
    have HS := Lib.hid hS
    have HZ := Lib.hid hZ
    have HV := Lib.hid hV
    have hvlt := hV.lt
    have v0 := hV.cell 0 (v := .int .i64 m.bed) rfl
    have v1 := hV.cell 1 (v := .int .i64 m.far) rfl
    clear hS hZ hV HT k0 k1
    by_cases hlt : k < l.length
    · obtain ⟨b', off', e', hc0, hc1⟩ := hA.out k hlt
      cases e'
      replace hc0 := hx.cell hc0
      replace hc1 := hx.cell hc1
      have hlt0 : b < wr.heap.size := lt_of_cell hc0
      have hdrop : l.drop k = l[k] :: l.drop (k + 1) := by simp
      have hfk := hF.out _ (List.getElem_mem hlt)
      have hB := Lib.hid (fun w => best1 l[k] m w hfk.rank hm.rank)
      go_wp2
      refine wp_region_later (by kernel_rfl) (by kernel_rfl) ?_
      repeat (go_big_quiet_step (refine Calls.later (hB.out _)))
      refine wpQuiet_nil ?_
      intro w2 hw2
      obtain ⟨⟨w2, hx2⟩, rfl⟩ := hw2
      have hV2 := HV.out.ext hx2
      have hZ2 := HZ.out.ext hx2
      have hE2 := hx.trans hx2
      have d0 := hx2.cell hc0
      have d1 := hx2.cell hc1
      have hlt2 : b < w2.heap.size := lt_of_cell d0
      have hvlt2 := hV2.lt
      have f0 := hV2.frozen 0
      have f1 := hV2.frozen 1
      have v0' := hV2.cell 0 (v := .int .i64 m.bed) rfl
      have v1' := hV2.cell 1 (v := .int .i64 m.far) rfl
      have HV2 := Lib.hid hV2
      have HZ2 := Lib.hid hZ2
      clear hV2 hZ2 HV HZ hx2 v0 v1 hc0 hc1 hvlt hlt0
      cases e1 : decide (l[k].rank - m.rank < 0)
      · go_wp2
        go_roundw
        case rel => exact ⟨k + 1, m, by omega, by omega, by go_num, by rw [← HS.out, hdrop]; simp only [minT]; rw [if_neg (by have := of_decide_eq_false e1; omega)], hm, HV2.out, HZ2.out, hE2⟩
        case measure => simp [intOf]; omega
      · go_wp2
        go_roundw
        case rel => exact ⟨k + 1, l[k], by omega, by omega, by go_num, by rw [← HS.out, hdrop]; simp only [minT]; rw [if_pos (by have := of_decide_eq_true e1; omega)], hfk, (HV2.out.set 0 (.int .i64 l[k].bed)).set 1 (.int .i64 l[k].far), (HZ2.out.other (by simp) _).other (by simp) _, (hE2.setCell (by simp) _).setCell (by simp) _⟩
        case measure => simp [intOf]; omega
    · obtain rfl : k = l.length := by omega
      have hT : m = T := by rw [← HS.out]; simp [minT]
      subst hT
      have hZ := HZ.out
      have z0 := hZ.cell 0 (v := .int .i64 0) rfl
      have z1 := hZ.cell 1 (v := .int .i64 0) rfl
      have g0 := hZ.frozen 0
      have g1 := hZ.frozen 1
      have hzlt := hZ.lt
      clear hZ
      go_wp2
      refine bodyPost_ret (v := m.agg) (by simp [results, Try.results59, go_sem, Toss.agg, *]) rfl ⟨rfl, (hx.setCell (by simp) _).setCell (by simp) _⟩
end Go.Proofs.Ytpifdeglhalefaa
namespace Go.Proofs.Ytpifdeglhalefaa
open Go.RowKit Go.BigFrame
attribute [local go_sem] Later.cell Later.frozen
/-- The players whose dart has a rank. -/
def bestW (r : Int) : List Int → List Toss → List Int
  | p :: ps, o :: l => if o.rank = r then p :: bestW r ps l else bestW r ps l
  | _, _ => []
/-- The least rank. -/
def leastT (l : List Toss) : Int := match l with | [] => 0 | x :: t => (minT x t).rank
theorem minT_fit {m : Toss} {l : List Toss} (hm : m.Fit) (h : ∀ x ∈ l, x.Fit) : (minT m l).Fit := by
  induction l generalizing m with
  | nil => exact hm
  | cons x l ih =>
    unfold minT
    refine ih ?_ (fun y hy => h y (List.mem_cons_of_mem _ hy))
    split
    · exact h x List.mem_cons_self
    · exact hm
theorem leg_best (ps : List Int) (l : List Toss) (a a' : Option Addr) (c c' : Nat) (w : World) (hp : CellsAt w .i64 a ps) (ha : TossAt w a' l) (hl : 0 < l.length) (hlen : l.length ≤ 1000000000000) (hpl : ps.length = l.length) (hf : ∀ x ∈ l, x.Fit) :
    Calls Try.prog 35 #[.slice a ps.length c, .slice a' l.length c'] w fun e w' => ∃ v, e = .returned v ∧ OwnI w' w.heap.size v (bestW (leastT l) ps l) ∧ Ext w w' := by
  have hm := minFunc_best l a' c' w ha hl hlen hf _ rfl
  have hfit : (minT l[0] (l.drop 1)).Fit := minT_fit (hf _ (List.getElem_mem hl)) (fun x hx => hf x (List.mem_of_mem_drop hx))
  have hr : leastT l = (minT l[0] (l.drop 1)).rank := by
    cases l with
    | nil => simp at hl
    | cons x t => rfl
  rw [hr]
  generalize minT l[0] (l.drop 1) = M at *
  have HP := Lib.hid hp
  have HA := Lib.hid ha
  have HF := Lib.hid hf
  have HM := Lib.hid hm
  clear hp ha hf hm hr
  obtain ⟨Mb, Mf⟩ := M
  have hR := off_rank ⟨Mb, Mf⟩
  generalize hRv : Toss.rank ⟨Mb, Mf⟩ = r at *
  have HR := Lib.hid hR
  clear hR
  go_enter Try.func35, Try.ntmps35
  go_wp2_with fail
  refine HM.out.mono ?_
  clear HM
  rintro e w1 ⟨rfl, hx1⟩
  unfold Toss.agg
  go_wp2
  go_loopw [4, 12] (fun v i wr => ∃ (k : Nat) (xs : List Int), k ≤ l.length ∧ i = .int .i64 k ∧ xs ++ bestW r (ps.drop k) (l.drop k) = bestW r ps l ∧ xs.length ≤ k ∧ OwnI wr (w1.heap.size + 1) v xs ∧ Blk wr w1.heap.size #[.int .i64 Mb, .int .i64 Mf] ∧ Ext w wr) (fun _ i _ => l.length - (intOf i).toNat)
  case atStart => exact ⟨0, [], Nat.zero_le _, rfl, rfl, Nat.le_refl _, OwnI.nil _ _, Blk.at _ (by simp), hx1.alloc _⟩
  case round =>
    obtain ⟨k, xs, hk, rfl, hS, hxl, hO, hV, hx⟩ := hrel
    have HS := Lib.hid hS
    have HO := Lib.hid hO
    have HV := Lib.hid hV
    have hvlt := hV.lt
    have v0 := hV.cell 0 (v := .int .i64 Mb) rfl
    have v1 := hV.cell 1 (v := .int .i64 Mf) rfl
    clear hS hO hV
    by_cases hlt : k < l.length
    · obtain ⟨b, off, rfl, hc0, hc1⟩ := HA.out k hlt
      obtain ⟨b', off', rfl, hp0⟩ := HP.out k (by omega)
      replace hc0 := hx.cell hc0
      replace hc1 := hx.cell hc1
      replace hp0 := hx.cell hp0
      have hlt0 : b < wr.heap.size := lt_of_cell hc0
      have hlt1 : b' < wr.heap.size := lt_of_cell hp0
      have hd1 : l.drop k = l[k] :: l.drop (k + 1) := by simp
      have hd2 : ps.drop k = ps[k] :: ps.drop (k + 1) := by simp
      have HK := Lib.hid (off_rank l[k])
      have HP0 := Lib.hid hp0
      go_wp2
      refine wp_region_later (by kernel_rfl) (by kernel_rfl) ?_
      repeat (go_big_quiet_step (first | with_reducible refine Calls.later (HK.out _) | with_reducible refine Calls.later (HR.out _)))
      refine wpQuiet_nil ?_
      intro w3 hw3
      obtain ⟨⟨w3, hx3⟩, rfl⟩ := hw3
      have hx3' := ((Ext.refl wr).alloc _).trans hx3
      have HV3 := Lib.hid (HV.out.ext hx3')
      have HO3 := Lib.hid (HO.out.ext hx3')
      have hE3 := hx.trans hx3'
      have hp3 := hx3'.cell HP0.out
      have hsz : w1.heap.size + 1 ≤ w3.heap.size := by have := Below.size hx3'; omega
      have hlt3 : b' < w3.heap.size := lt_of_cell hp3
      clear hc0 hc1 hp0 v0 v1 hvlt hlt0 hlt1 hx3 hx3' HP0
      cases e1 : l[k].rank == r
      · go_wp2
        go_roundw
        case rel => exact ⟨k + 1, xs, by omega, by go_num, by rw [← HS.out, hd1, hd2]; simp only [bestW]; rw [if_neg (by simpa using e1)], by omega, HO3.out, HV3.out, hE3⟩
        case measure => simp [intOf]; omega
      · go_wp2_with (at_builtin; refine wp_append_i rfl _ _ rfl (w1.heap.size + 1) _ xs rfl (OwnI.ext HO3.out ((Ext.refl w3).alloc _)) ⟨w3.heap.size, 0, none⟩ 1 ps[k] rfl (by simp [go_sem]) (by omega) (by simp; omega) ?_)
        intro v' w4 hO4 hg
        have hE4 := Ext.grown (hE3.alloc _) hg (fun k hk => by have := HO3.out.from k hk; have := Below.size hx1; omega)
        have hV4 := (HV3.out.alloc _).chg (grown_chg hg) (fun e => by have := HO3.out.from _ e; omega)
        have HO4 := Lib.hid hO4
        have HV4 := Lib.hid hV4
        clear hO4 hg hV4
        go_wp2
        go_roundw
        case rel => exact ⟨k + 1, xs ++ [ps[k]], by omega, by go_num, by rw [← HS.out, hd1, hd2]; simp only [bestW]; rw [if_pos (by simpa using e1), List.append_assoc]; rfl, by simp; omega, HO4.out, HV4.out, hE4⟩
        case measure => simp [intOf]; omega
    · obtain rfl : k = l.length := by omega
      have hxs : xs = bestW r ps l := by
        rw [← HS.out, show l.drop l.length = [] by simp]
        cases ps.drop l.length <;> simp [bestW]
      subst hxs
      go_wp2
      go_ret
      exact ⟨_, rfl, own_mono HO.out (by have := Below.size hx1; omega), hx⟩
end Go.Proofs.Ytpifdeglhalefaa
namespace Go.Proofs.Ytpifdeglhalefaa
open Go.RowKit
/-- The cells at an address read as rounds of darts. -/
def RoundsAt (w : World) (a : Option Addr) (rs : List (List Toss)) : Prop :=
  ∀ i, (h : i < rs.length) → ∃ b o a' c', a = some ⟨b, o, none⟩ ∧ w.cell? ⟨b, o + i, none⟩ = some (.slice a' rs[i].length c') ∧ TossAt w a' rs[i]
theorem RoundsAt.ext {w w' : World} {a : Option Addr} {rs : List (List Toss)} (h : RoundsAt w a rs) (he : Ext w w') : RoundsAt w' a rs := fun i hi => by
  obtain ⟨b, o, a', c', e, h0, h1⟩ := h i hi
  exact ⟨b, o, a', c', e, he.cell h0, h1.ext he⟩
/-- Who is still in after rounds, or an error. -/
def offW : List Int → List (List Toss) → List Int ⊕ Int
  | inn, [] => .inl inn
  | inn, r :: rs => if inn.length = 1 then .inr 33 else if r.length ≠ inn.length then .inr 4 else if r.any (fun o => !o.ok) = true then .inr 2 else offW (bestW (leastT r) inn r) rs
def offE : List Int ⊕ Int → Int × Int
  | .inr e => (0, e)
  | .inl inn => if 1 < inn.length then (0, 31) else (inn.headD 0, 0)
def upto (n : Nat) : List Int := (List.range n).map fun i : Nat => (i : Int)
def offS (players : Int) (rs : List (List Toss)) : Int × Int :=
  if ins 1 8 [players] = false then (0, 3) else if 50 < rs.length then (0, 5) else offE (offW (upto players.toNat) rs)
theorem upto_succ (n : Nat) : upto (n + 1) = upto n ++ [(n : Int)] := by simp [upto, List.range_succ]
theorem upto_length (n : Nat) : (upto n).length = n := by simp [upto]
theorem minT_mem (m : Toss) (l : List Toss) : minT m l = m ∨ minT m l ∈ l := by
  induction l generalizing m with
  | nil => exact .inl rfl
  | cons x l ih =>
    unfold minT
    rcases ih (if x.rank < m.rank then x else m) with h | h
    · rw [h]; split
      · exact .inr List.mem_cons_self
      · exact .inl rfl
    · exact .inr (List.mem_cons_of_mem _ h)
theorem bestW_length (r : Int) (ps : List Int) (l : List Toss) : (bestW r ps l).length ≤ ps.length := by
  induction ps generalizing l with
  | nil => simp [bestW]
  | cons p ps ih =>
    cases l with
    | nil => simp [bestW]
    | cons o l => have := ih l; simp only [bestW]; split <;> simp <;> omega
theorem bestW_ne (r : Int) (ps : List Int) (l : List Toss) (h : ps.length = l.length) (hr : ∃ o ∈ l, o.rank = r) : 0 < (bestW r ps l).length := by
  induction ps generalizing l with
  | nil => obtain ⟨o, ho, _⟩ := hr; cases l with
    | nil => cases ho
    | cons x l => simp at h
  | cons p ps ih =>
    cases l with
    | nil => obtain ⟨o, ho, _⟩ := hr; cases ho
    | cons x l =>
      simp only [bestW]
      split
      · simp
      · rename_i hx
        obtain ⟨o, ho, ho'⟩ := hr
        rcases List.mem_cons.1 ho with rfl | ho
        · exact absurd ho' hx
        · exact ih l (by simpa using h) ⟨o, ho, ho'⟩
theorem leastT_attained {l : List Toss} (h : 0 < l.length) : ∃ o ∈ l, o.rank = leastT l := by
  cases l with
  | nil => simp at h
  | cons x t =>
    rcases minT_mem x t with h | h
    · exact ⟨x, List.mem_cons_self, by simp only [leastT]; rw [h]⟩
    · exact ⟨_, List.mem_cons_of_mem _ h, rfl⟩
theorem Toss.ok_fit {o : Toss} (h : o.ok = true) (hb : I64 o.bed) : o.Fit := by
  unfold Toss.ok at h
  simp only [Bool.and_eq_true, ins_one] at h
  exact ⟨hb, h.2⟩
set_option maxHeartbeats 1000000 in
theorem leg_Off (players : Int) (rs : List (List Toss)) (a : Option Addr) (c : Nat) (w : World) (ha : RoundsAt w a rs) (hlen : rs.length ≤ 9223372036854775807) (hb : ∀ r ∈ rs, ∀ x ∈ r, I64 x.bed) (T : Int × Int) (hT : offS players rs = T) :
    Calls Try.prog 11 #[.int .i64 players, .slice a rs.length c] w fun e w' => e = .returned (.tuple #[.int .i64 T.1, .int .i64 T.2]) ∧ Ext w w' := by
  have HT := Lib.hid hT
  have HA := Lib.hid ha
  have HB := Lib.hid hb
  clear hT ha hb
  go_enter Try.func11, Try.ntmps11
  go_wp2_with fail
  refine (leg_within_1 _ _ _ _ _ (by simp)).mono ?_
  rintro e w1 ⟨rfl, hx1⟩
  cases h1 : ins 1 8 [players]
  case false =>
    go_wp2
    go_ret2
    exact ⟨by rw [← HT.out]; simp [offS, h1], hx1⟩
  have hpl := ins_one.1 h1
  cases h2 : decide ((50 : Int) < rs.length)
  case true =>
    have h2' : 50 < rs.length := by have := of_decide_eq_true h2; omega
    go_wp2
    go_ret2
    exact ⟨by rw [← HT.out]; simp [offS, h1, h2'], hx1⟩
  have h2' : ¬ 50 < rs.length := by have := of_decide_eq_false h2; omega
  obtain ⟨n, rfl⟩ : ∃ n : Nat, players = n := ⟨players.toNat, by omega⟩
  have HT2 : Hid (offE (offW (upto n) rs) = T) := Lib.hid (by rw [← HT.out]; simp only [offS, h1, if_neg h2', Bool.true_eq_false, if_false]; rfl)
  clear HT
  go_wp2
  go_loopw [6, 20] (fun v i wr => ∃ k : Nat, k ≤ n ∧ i = .int .i64 k ∧ OwnI wr w.heap.size v (upto k) ∧ Ext w wr) (fun _ i _ => n - (intOf i).toNat)
  case atStart => exact ⟨0, Nat.zero_le _, rfl, (OwnI.nil _ _ : OwnI w1 w.heap.size _ []), hx1⟩
  case round =>
    obtain ⟨k, hk, rfl, hO, hx⟩ := hrel
    have HO := Lib.hid hO
    clear hO
    by_cases hlt : k < n
    · have hsz := Below.size hx
      go_wp2_with (at_builtin; refine wp_append_i rfl _ _ rfl w.heap.size _ (upto k) rfl (OwnI.ext HO.out ((Ext.refl wr).alloc _)) ⟨wr.heap.size, 0, none⟩ 1 k rfl (by simp [go_sem]) (by rw [upto_length]; omega) (by simp; omega) ?_)
      intro v' w4 hO4 hg
      have hE4 := Ext.grown (hx.alloc _) hg (fun k hk => HO.out.from k hk)
      have HO4 := Lib.hid hO4
      clear hO4 hg hsz
      go_wp2
      go_roundw
      case rel => exact ⟨k + 1, by omega, by go_num, by rw [upto_succ]; exact HO4.out, hE4⟩
      case measure => simp [intOf]; omega
    · obtain rfl : k = n := by omega
      go_wp2
      clear h2
      go_loopw [6, 30] (fun v i wr => ∃ (k : Nat) (inn : List Int), k ≤ rs.length ∧ i = .int .i64 k ∧ offE (offW inn (rs.drop k)) = T ∧ 0 < inn.length ∧ inn.length ≤ 8 ∧ OwnI wr w.heap.size v inn ∧ Ext w wr) (fun _ i _ => rs.length - (intOf i).toNat)
      case atStart => exact ⟨0, upto k, Nat.zero_le _, rfl, HT2.out, by rw [upto_length]; omega, by rw [upto_length]; omega, HO.out, hx⟩
      case round =>
        clear HO hx HT2
        obtain ⟨j, inn, hj, rfl, hS, hi1, hi8, hO, hx⟩ := hrel
        have HS := Lib.hid hS
        obtain ⟨ai, ci, rfl, hci⟩ := hO.cells
        have HO := Lib.hid hO
        have HCI := Lib.hid hci
        clear hS hO
        by_cases hlt2 : j < rs.length
        · obtain ⟨b, off, a', c', rfl, hc0, hr⟩ := HA.out j hlt2
          replace hc0 := hx.cell hc0
          have HR := Lib.hid (hr.ext hx)
          have hdrop : rs.drop j = rs[j] :: rs.drop (j + 1) := by simp
          have hB := HB.out _ (List.getElem_mem hlt2)
          generalize rs[j] = r at *
          have HBr := Lib.hid hB
          clear hB hr
          clear hci
          cases e1 : ((inn.length : Int) == 1)
          case true =>
            have e1' : inn.length = 1 := by have := eq_of_beq e1; omega
            go_wp2
            go_ret2
            exact ⟨by rw [← HS.out, hdrop]; simp [offW, offE, e1'], hx⟩
          have e1' : inn.length ≠ 1 := by intro h; rw [h] at e1; cases e1
          cases e2 : ((r.length : Int) != (inn.length : Int))
          case true =>
            have e2' : r.length ≠ inn.length := by intro h; rw [h] at e2; simp at e2
            go_wp2
            go_ret2
            have hT' : T = (0, 4) := by rw [← HS.out, hdrop]; simp only [offW, if_neg e1', if_pos e2', offE]
            exact ⟨by rw [hT']; rfl, hx⟩
          have e2' : r.length = inn.length := by simp at e2; omega
          have hTests : TestsO 33 #[] (fun o => !o.ok) r wr := fun x hx w2 _ => off1 x w2 (HBr.out x hx)
          have hCon := containsFunc_o 33 #[] enters_off1 (fun o => !o.ok) r a' c' wr HR.out (by omega) hTests
          clear hTests
          have E2 := Lib.hid e2'
          clear e2'
          go_wp2_with fail
          refine hCon.mono ?_
          clear hCon
          rintro e w2 ⟨rfl, hx2⟩
          have hE2 := hx.trans hx2
          cases e3 : r.any (fun o => !o.ok)
          case true =>
            go_wp2
            go_ret2
            have e2' := E2.out
            have hT' : T = (0, 2) := by rw [← HS.out, hdrop]; simp only [offW, if_neg e1', if_neg (Decidable.not_not.2 e2'), if_pos e3, offE]
            exact ⟨by rw [hT']; rfl, hE2⟩
          have e2' := E2.out
          have hfit : ∀ x ∈ r, x.Fit := fun x hx => Toss.ok_fit (by have := List.any_eq_false.1 e3 x hx; simpa using this) (HBr.out x hx)
          have hbest := leg_best inn r ai a' ci c' w2 (HCI.out.ext hx2) (HR.out.ext hx2) (by omega) (by omega) e2'.symm hfit
          have hatt := leastT_attained (l := r) (by omega)
          have hl1 := bestW_ne (leastT r) inn r e2'.symm hatt
          have hl2 := bestW_length (leastT r) inn r
          have HX2 := Lib.hid hx2
          clear hfit hatt hx2 hc0 e2'
          go_wp2_with fail
          refine hbest.mono ?_
          clear hbest
          rintro e w3 ⟨v, rfl, hO3, hx3⟩
          have hE3 := hE2.trans hx3
          have HO3 := Lib.hid (own_mono hO3 (Below.size hE2) : OwnI w3 w.heap.size v _)
          clear hO3 hx3
          go_wp2
          go_roundw
          have e2' := E2.out
          case rel => exact ⟨j + 1, _, by omega, by go_num, by rw [← HS.out, hdrop]; simp only [offW, if_neg e1', if_neg (Decidable.not_not.2 e2'), e3, Bool.false_eq_true, if_false], hl1, by omega, HO3.out, hE3⟩
          case measure => simp [intOf]; omega
        · obtain rfl : j = rs.length := by omega
          have hS : offE (.inl inn) = T := by rw [← HS.out]; simp [offW]
          clear HS
          cases e1 : decide ((1 : Int) < inn.length)
          case true =>
            have e1' : 1 < inn.length := by have := of_decide_eq_true e1; omega
            go_wp2
            go_ret2
            have hT' : T = (0, 31) := by rw [← hS]; simp only [offE, if_pos e1']
            exact ⟨by rw [hT']; rfl, hx⟩
          have e1' : ¬ 1 < inn.length := by have := of_decide_eq_false e1; omega
          obtain ⟨b, off, rfl, hc0⟩ := hci 0 hi1
          simp only [Nat.add_zero] at hc0
          have hh : inn.headD 0 = inn[0] := by cases inn with
            | nil => simp at hi1
            | cons x t => rfl
          clear hci
          go_wp2
          go_ret2
          have hT' : T = (inn[0], 0) := by rw [← hS]; simp only [offE, if_neg e1', hh]
          exact ⟨by rw [hT']; rfl, hx⟩
end Go.Proofs.Ytpifdeglhalefaa
