/-
  The statements' helpers: visits of one's own; pubThrown.
-/
import Derived.Test.YtpifdeglhalefaaWpc
import Derived.Test.YtpifdeglhalefaaOuf
namespace Go.Proofs.Ytpifdeglhalefaa
open Go.RowKit Go.BigFrame
attribute [local go_sem] Later.cell Later.frozen
/-- The cells of visits, their beds by slices. -/
def cellsV : List LV → List Value → List Value
  | x :: l, u :: us => .int .i64 x.player :: u :: cellsV l us
  | _, _ => []
theorem cellsV_snoc : ∀ (l : List LV) (us : List Value) (x : LV) (u : Value), us.length = l.length → cellsV (l ++ [x]) (us ++ [u]) = cellsV l us ++ [.int .i64 x.player, u]
  | [], [], _, _, _ => rfl
  | [], _ :: _, _, _, h => by cases h
  | _ :: _, [], _, _, h => by cases h
  | y :: l, v :: us, x, u, h => by
    have := cellsV_snoc l us x u (by simpa using h)
    simp only [List.cons_append, cellsV, this]
theorem cellsV_at : ∀ (l : List LV) (us : List Value) (i : Nat) (h : i < l.length) (h2 : i < us.length), (cellsV l us)[i * 2]? = some (.int .i64 l[i].player) ∧ (cellsV l us)[i * 2 + 1]? = some us[i]
  | [], _, i, h, _ => by cases h
  | _ :: _, [], i, _, h => by cases h
  | x :: l, u :: us, 0, _, _ => ⟨rfl, rfl⟩
  | x :: l, u :: us, i + 1, h, h2 => by
    have := cellsV_at l us i (by simpa using h) (by simpa using h2)
    rw [show (i + 1) * 2 = i * 2 + 1 + 1 by omega]
    exact this
/-- The beds of visits of one's own. -/
def BedsV (w : World) (base : Nat) (us : List Value) (l : List LV) : Prop := ∀ i (h : i < l.length), ∃ a c, us[i]? = some (.slice a l[i].beds.length c) ∧ w.ownsRow base 33 1 (.slice a l[i].beds.length c) l[i].beds.length (l[i].beds.map (Value.int .i64))
theorem BedsV.ext {w w' : World} {base : Nat} {us : List Value} {l : List LV} (h : BedsV w base us l) (hx : Ext w w') : BedsV w' base us l := fun i hi => let ⟨a, c, h1, h2⟩ := h i hi; ⟨a, c, h1, own_chg h2 (hx.chg fun _ => False) fun _ _ => fun a => a⟩
/-- Visits of one's own. -/
def VisF (w : World) (base : Nat) (v : Value) (l : List LV) : Prop := ∃ us : List Value, us.length = l.length ∧ w.ownsRow base 62 2 v l.length (cellsV l us) ∧ ∀ i (h : i < l.length), ∃ a c, us[i]? = some (.slice a l[i].beds.length c) ∧ w.ownsRow base 33 1 (.slice a l[i].beds.length c) l[i].beds.length (l[i].beds.map (Value.int .i64))
theorem VisF.ext {w w' : World} {base : Nat} {v : Value} {l : List LV} (h : VisF w base v l) (hx : Ext w w') : VisF w' base v l :=
  let ⟨us, h1, h2, h3⟩ := h; ⟨us, h1, own_chg h2 (hx.chg fun _ => False) fun _ _ => id, fun i hi => let ⟨a, c, h4, h5⟩ := h3 i hi; ⟨a, c, h4, own_chg h5 (hx.chg fun _ => False) fun _ _ => id⟩⟩
theorem VisF.shape {w : World} {base : Nat} {v : Value} {l : List LV} (h : VisF w base v l) : ∃ a c, v = .slice a l.length c := let ⟨_, _, h2, _⟩ := h; own_shape h2
theorem typesV {w : World} {base base' z z' n n' : Nat} {e e' : TypeId} {v u : Value} {xs ys : List Value} (h : w.ownsRow base e z v n xs) (hu : w.ownsRow base' e' z' u n' ys) (hne : e ≠ e') : ∀ k, u.ownBlock = some k → ¬ v.ownBlock = some k := by
  intro k hk e3
  obtain ⟨_, e1⟩ := own_typeO hu hk
  obtain ⟨_, e2⟩ := own_typeO h e3
  rw [e1] at e2
  injection e2 with e2
  injection e2 with _ e4 _
  exact hne e4.symm
theorem VisF.snoc {w w' : World} {base : Nat} {v v' : Value} {l : List LV} {us : List Value} {x : LV} {a : Option Addr} {c : Nat} (h1 : us.length = l.length) (h2 : w.ownsRow base 62 2 v l.length (cellsV l us)) (h3 : ∀ i (h : i < l.length), ∃ a c, us[i]? = some (.slice a l[i].beds.length c) ∧ w.ownsRow base 33 1 (.slice a l[i].beds.length c) l[i].beds.length (l[i].beds.map (Value.int .i64)))
    (hw : w.ownsRow base 33 1 (.slice a x.beds.length c) x.beds.length (x.beds.map (Value.int .i64))) (hrow : w'.ownsRow base 62 2 v' (l.length + 1) (cellsV l us ++ [.int .i64 x.player, .slice a x.beds.length c])) (hx : Chg (fun k => v.ownBlock = some k) w w') : VisF w' base v' (l ++ [x]) := by
  refine ⟨us ++ [.slice a x.beds.length c], by simp [h1], by rw [cellsV_snoc _ _ _ _ h1, List.length_append]; exact hrow, fun i hi => ?_⟩
  by_cases hlt : i < l.length
  · obtain ⟨a', c', h4, h5⟩ := h3 i hlt
    rw [List.getElem_append_left hlt, List.getElem?_append_left (by omega)]
    exact ⟨a', c', h4, own_chg h5 hx (typesV h2 h5 (by decide))⟩
  · have : i = l.length := by simp at hi; omega
    subst this
    rw [List.getElem_append_right (Nat.le_refl _), List.getElem?_append_right (by omega)]
    simp only [h1, Nat.sub_self]
    exact ⟨a, c, by simp, own_chg hw hx (typesV h2 hw (by decide))⟩
theorem own_cellsM {w : World} {base z : Nat} {e : TypeId} {a : Option Addr} {n c : Nat} {xs : List Value} (h : w.ownsRow base e z (.slice a n c) n xs) (hn : 0 < n) : ∃ b, a = some ⟨b, 0, none⟩ ∧ ∀ i v, xs[i]? = some v → w.cell? ⟨b, i, none⟩ = some v := by
  obtain ⟨h1, ⟨e1, h2⟩ | ⟨g, cap, cur, e1, h2, h3, h4, h5, h6, h7⟩⟩ := h
  · omega
  · cases e1
    refine ⟨g, rfl, fun i v hv => ?_⟩
    have hi := (List.getElem?_eq_some_iff.1 hv).1
    rw [← h7] at hv
    rw [List.getElem?_take_of_lt (by rw [h1] at hi; exact hi)] at hv
    exact Blk.cell ⟨_, h3⟩ i (by simpa using hv)
theorem VisF.at_ {w : World} {base : Nat} {a : Option Addr} {c : Nat} {l : List LV} (h : VisF w base (.slice a l.length c) l) : VisAt w a l := fun i hi => by
  obtain ⟨us, h1, h2, h3⟩ := h
  obtain ⟨g, e, hc⟩ := own_cellsM h2 (by omega)
  obtain ⟨ba, bc, h4, h5⟩ := h3 i hi
  have h6 := cellsV_at l us i hi (by omega)
  have h7 : us[i]'(by omega) = .slice ba l[i].beds.length bc := by
    rw [List.getElem?_eq_getElem (by omega)] at h4
    injection h4
  rw [h7] at h6
  refine ⟨g, 0, ba, bc, e, by simpa using hc _ _ h6.1, by simpa using hc _ _ h6.2, fun j hj => ?_⟩
  obtain ⟨b, e2, hb⟩ := own_cellsM h5 (by omega)
  exact ⟨b, 0, e2, by simpa using hb j (.int .i64 l[i].beds[j]) (by simp [hj])⟩
theorem CellsAt.subW {w : World} {b o : Nat} {xs : List Int} (h : CellsAt w .i64 (some ⟨b, o, none⟩) xs) (i n : Nat) : CellsAt w .i64 (some ⟨b, o + i, none⟩) ((xs.drop i).take n) := fun j hj => by
  have hj' : j < (xs.drop i).length := Nat.lt_of_lt_of_le hj (by simp; omega)
  simp at hj'
  obtain ⟨b', o', e, hc⟩ := h (i + j) (by omega)
  cases e
  refine ⟨b, o + i, rfl, ?_⟩
  rw [List.getElem_take, List.getElem_drop, Nat.add_assoc]
  exact hc
theorem visW_at {l : List Int} {k : Nat} (h : k < (visW l).length) : (visW l)[k]? = some ⟨0, (l.drop (3 * k)).take 3⟩ := by
  rw [visW_len] at h
  unfold visW
  rw [List.getElem?_map, List.getElem?_range h]
  rfl
theorem info_visW : (Try.prog.info? 62).map (fun i => (i.zero, i.size, i.bytes)) = some (some (.agg #[.int .i64 0, .slice none 0 0]), 2, 32) := by kernel_rfl
set_option maxRecDepth 100000 in
set_option maxHeartbeats 4000000 in
theorem pub_Thrown (l : List Int) (a : Option Addr) (c : Nat) (w : World) (h : CellsAt w .i64 a l) (hl : l.length ≤ 100) (hn : a = none → l.length = 0 ∧ c = 0) (hc : l.length ≤ c ∧ c ≤ maxLen) :
    Calls Try.prog 24 #[.slice a l.length c] w fun e w' => ∃ v, e = .returned v ∧ VisF w' w.heap.size v (visW l) ∧ Ext w w' := by
  have HC := Lib.hid h
  have HVL := Lib.hid (visW_len l)
  obtain ⟨n, hnn⟩ : ∃ y, l.length = y := ⟨_, rfl⟩
  have HNN := Lib.hid hnn
  rw [hnn] at hl hn hc HVL ⊢
  have HNA := Lib.hid hn
  obtain ⟨hc1, hc2⟩ := hc
  unfold maxLen at hc2
  clear h hn hnn
  go_enter Try.func24, Try.ntmps24
  go_upto_region 3 with fail
  have HV0 := Lib.hid (show VisF (w.alloc (.cells #[] 62)) w.heap.size (.slice (some ⟨w.heap.size, 0, none⟩) 0 0) ((visW l).take 0) from ⟨[], rfl, own_empty rfl (Nat.le_refl _), fun i hi => absurd hi (by simp)⟩)
  have HX0 := Lib.hid ((Ext.refl w).alloc (.cells #[] 62))
  go_loopw [3, 4] (fun lv iv wr => ∃ k : Nat, iv = .int .i64 ((3 * k : Nat) : Int) ∧ 3 * k < n + 3 ∧ VisF wr w.heap.size lv ((visW l).take k) ∧ Ext w wr) (fun _ iv _ => n + 3 - (intOf iv).toNat)
  case atStart => exact ⟨0, rfl, by omega, HV0.out, HX0.out⟩
  case round =>
    rename_i lv iv
    obtain ⟨k, rfl, hk, hv, hx⟩ := hrel
    obtain ⟨w4, rfl⟩ : ∃ y, y = wr := ⟨_, rfl⟩
    clear HV0 HX0
    have HV4 := Lib.hid hv
    have HX4 := Lib.hid hx
    obtain ⟨oa, oc, rfl⟩ := hv.shape
    clear hv hx
    obtain ⟨i, hi⟩ : ∃ y, 3 * k = y := ⟨_, rfl⟩
    rw [hi] at hk ⊢
    have HI := Lib.hid hi
    by_cases hlt : i < n
    · have htl : ((visW l).take k).length = k := by rw [List.length_take, HVL.out]; omega
      have HTL := Lib.hid htl
      rw [htl]
      have hlt' : (i : Int) < (n : Int) := by omega
      obtain ⟨b, o, rfl, hc0⟩ := HC.out i (by rw [HNN.out]; exact hlt)
      clear hi htl hc0
      have hkn : k ≤ 100 := by have := HI.out; omega
      obtain ⟨q, hq⟩ : ∃ y, (l.drop i).take 3 = y := ⟨_, rfl⟩
      have hql : q.length = min 3 (n - i) := by rw [← hq, List.length_take, List.length_drop, HNN.out]
      have hbc := CellsAt.subW (HC.out.ext HX4.out) i 3
      rw [hq] at hbc
      obtain ⟨m, hm⟩ : ∃ y, q.length = y := ⟨_, rfl⟩
      have hm1 : 1 ≤ m ∧ m ≤ 3 := by omega
      have hmin : (min (n : Int) ((i : Int) + 3)).toNat - i = m := by omega
      have hp := pub_Copy q (some ⟨b, o + i, none⟩) (c - i) w4 hbc (by omega) (fun h => by cases h)
      rw [hm] at hp
      have HP := Lib.hid hp
      have HMIN := Lib.hid hmin
      have HM := Lib.hid hm
      have HQ := Lib.hid hq
      obtain ⟨hm1, hm3⟩ := hm1
      clear hp hmin hm hq hql hbc
      go_wp2_with fail
      rw [HMIN.out]
      refine HP.out.mono ?_
      rintro e w5 ⟨v, rfl, ho5, hx5⟩
      obtain ⟨qa, qc, rfl⟩ := own_shape ho5
      have hos := HX4.out.size
      have HO5 := Lib.hid (own_mono ho5 hos)
      have HV5 := Lib.hid (HV4.out.ext hx5)
      have HX5 := Lib.hid (HX4.out.trans hx5)
      clear ho5 hx5 hos HV4 HP HMIN HX4
      obtain ⟨us, hus1, hus2, hus3⟩ := HV5.out
      rw [HTL.out] at hus2
      have hal : Ext w5 (w5.alloc (.cells #[.int .i64 0, .slice qa m qc] 62)) := (Ext.refl _).alloc _
      have HOA := Lib.hid (own_chg hus2 (hal.chg fun _ => False) fun _ _ => fun a => a)
      have HU3 := Lib.hid (BedsV.ext hus3 hal)
      have HU1 := Lib.hid hus1
      have HQA := Lib.hid (own_chg HO5.out (hal.chg fun _ => False) fun _ _ => fun a => a)
      have HXA := Lib.hid (HX5.out.trans hal)
      have HS := Lib.hid HXA.out.size
      clear hus1 hus2 hus3 hal
      go_wp2_with (at_builtin; refine wp_append_from rfl _ _ 57 62 _ 2 32 rfl info_visW (by kernel_rfl) rfl (by decide) w.heap.size (.slice oa k oc) k (cellsV ((visW l).take k) us) rfl HOA.out (some ⟨w5.heap.size, 0, none⟩) 1 1 [.int .i64 0, .slice qa m qc] rfl (fun h => by cases h) rfl ?_ ?_ (by omega) (by omega) HS.out ?_)
      · intro ad had j' u hj
        cases had
        match j', hj with
        | 0, hj => cases hj; rw [addr_add]; exact (Blk.new w5 _ _).cell 0 rfl
        | 1, hj => cases hj; rw [addr_add]; exact (Blk.new w5 _ _).cell 1 rfl
      · intro u hu
        simp only [List.mem_cons, List.not_mem_nil, or_false] at hu
        rcases hu with rfl | rfl <;> rfl
      intro v6 w6 hO6 hg6 hn6
      have HV6 := Lib.hid (VisF.snoc (x := ⟨0, q⟩) (a := qa) (c := qc) HU1.out (by rw [HTL.out]; exact HOA.out) HU3.out (by rw [HM.out]; exact HQA.out) (by rw [HTL.out, HM.out]; exact hO6) hg6)
      have HX6 := Lib.hid (Chg.to_ext HXA.out hg6 (fun q hq => (World.ownsRow.lt HOA.out q hq).1))
      obtain ⟨oa2, oc2, rfl⟩ := own_shape hO6
      clear hO6 hg6 hn6 HOA HU3 HU1 HQA HXA HS HV5 HO5 HX5
      go_wp2
      go_roundw
      case rel =>
        refine ⟨k + 1, by have := HI.out; go_num, by have := HI.out; omega, ?_, HX6.out⟩
        have h := HV6.out
        rw [show (visW l).take (k + 1) = (visW l).take k ++ [⟨0, q⟩] by
          have hk : k < (visW l).length := by rw [HVL.out]; have := HI.out; omega
          rw [List.take_add_one, visW_at hk, HI.out, HQ.out]
          rfl]
        exact h
      case measure => simp [intOf]; omega
    · have hlt' : ¬ (i : Int) < (n : Int) := by omega
      have hk : (visW l).take k = visW l := List.take_of_length_le (by rw [HVL.out]; have := HI.out; omega)
      rw [hk] at HV4 ⊢
      clear hi hk
      go_wp2
      go_ret
      exact ⟨_, rfl, HV4.out, HX4.out⟩
end Go.Proofs.Ytpifdeglhalefaa
