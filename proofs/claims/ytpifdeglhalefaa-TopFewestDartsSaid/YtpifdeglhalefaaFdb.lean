/-
  The statements' helpers: a copy of visits.
-/
import Derived.Test.YtpifdeglhalefaaWpf
namespace Go.Proofs.Ytpifdeglhalefaa
open Go.RowKit Go.BigFrame
attribute [local go_sem] Later.cell Later.frozen Lat.cell Lat.frozen
theorem own_blkW {b n c i : Nat} (e : (Value.slice (some ⟨b, 0, none⟩) n c).ownBlock = some i) : b = i := Option.some.inj e
theorem Closed.onW {ops : Array Oper} {L : Nat → Bool} (hc : Closed ops L) {i j : Nat} (f : Nat) (hj : L j = true) (h : reach ops i f j = true) : L i = true := by
  cases hi : L i
  · have := hc.off hi f j h; rw [hj] at this; cases this
  · rfl
/-- Visits of one's own, in some blocks. -/
def VisP (w : World) (base : Nat) (p : Nat → Prop) (v : Value) (l : List LV) : Prop := ∃ us : List Value, us.length = l.length ∧ w.ownsRow base 62 2 v l.length (cellsV l us) ∧ (∀ k, v.ownBlock = some k → p k) ∧
  ∀ i (h : i < l.length), ∃ a c, us[i]? = some (.slice a l[i].beds.length c) ∧ w.ownsRow base 33 1 (.slice a l[i].beds.length c) l[i].beds.length (l[i].beds.map (Value.int .i64)) ∧ ∀ k, (Value.slice a l[i].beds.length c).ownBlock = some k → p k
theorem VisP.fin {w : World} {base : Nat} {p : Nat → Prop} {v : Value} {l : List LV} (h : VisP w base p v l) : VisF w base v l :=
  let ⟨us, h1, h2, _, h4⟩ := h; ⟨us, h1, h2, fun i hi => let ⟨a, c, h5, h6, _⟩ := h4 i hi; ⟨a, c, h5, h6⟩⟩
theorem VisF.own {w : World} {base : Nat} {v : Value} {l : List LV} (h : VisF w base v l) : VisP w base (fun k => base ≤ k ∧ k < w.heap.size) v l :=
  let ⟨us, h1, h2, h4⟩ := h; ⟨us, h1, h2, fun k hk => World.ownsRow.lt h2 k hk, fun i hi => let ⟨a, c, h5, h6⟩ := h4 i hi; ⟨a, c, h5, h6, fun k hk => World.ownsRow.lt h6 k hk⟩⟩
theorem own_same {w w' : World} {base z n : Nat} {e : TypeId} {v : Value} {xs : List Value} (hw : w.ownsRow base e z v n xs) (h : ∀ k, v.ownBlock = some k → w'.heap[k]? = w.heap[k]?) : w'.ownsRow base e z v n xs := by
  obtain ⟨h1, h2 | ⟨g, cap, cur, e1, h2, h3, h4⟩⟩ := hw
  · exact ⟨h1, .inl h2⟩
  · exact ⟨h1, .inr ⟨g, cap, cur, e1, h2, by rw [h g (by rw [e1]; rfl)]; exact h3, h4⟩⟩
def Res.visP (base : Nat) (p : Nat → Prop) (v : Value) (l : List LV) : Res := ⟨p, fun w => VisP w base p v l, fun _w _w' h hw =>
  let ⟨us, h1, h2, h3, h4⟩ := hw; ⟨us, h1, own_same h2 fun k hk => h k (h3 k hk), h3, fun i hi => let ⟨a, c, h5, h6, h7⟩ := h4 i hi; ⟨a, c, h5, own_same h6 fun k hk => h k (h7 k hk), h7⟩⟩⟩
/-- Behind the append of one more visit: a row of visits at place q, its beds at place q1, the box at place q2. -/
theorem frm_snoc {lo base : Nat} {rs : List Res} {w w' : World} {p : Nat → Prop} {ov nv : Value} {l : List LV} {us : List Value} {lv : LV} {a : Option Addr} {c : Nat} (h : Frm lo rs w) (q q1 q2 : Nat) (h1 : q ≠ q1) (h2 : q ≠ q2) (h3 : q1 ≠ q2)
    (hq : rs[q]? = some (Res.visP base p ov l)) (hq1 : rs[q1]? = some (Res.own base 33 1 (.slice a lv.beds.length c) lv.beds.length (lv.beds.map (Value.int .i64))))
    (u1 : us.length = l.length) (u2 : w.ownsRow base 62 2 ov l.length (cellsV l us)) (u3 : ∀ k, ov.ownBlock = some k → p k) (u4 : ∀ i (h : i < l.length), ∃ a c, us[i]? = some (.slice a l[i].beds.length c) ∧ w.ownsRow base 33 1 (.slice a l[i].beds.length c) l[i].beds.length (l[i].beds.map (Value.int .i64)) ∧ ∀ k, (Value.slice a l[i].beds.length c).ownBlock = some k → p k)
    (hrow : w'.ownsRow base 62 2 nv (l.length + 1) (cellsV l us ++ [.int .i64 lv.player, .slice a lv.beds.length c])) (hC : Chg (fun k => ov.ownBlock = some k) w w') (hn : ∀ k, nv.ownBlock = some k → ov.ownBlock = some k ∨ (w.heap.size ≤ k ∧ k < w'.heap.size)) (hlo : lo ≤ w.heap.size) :
    Frm lo (((rs.set q2 Res.none).set q1 Res.none).set q (Res.visP base (fun k => p k ∨ (Value.slice a lv.beds.length c).ownBlock = some k ∨ nv.ownBlock = some k) nv (l ++ [lv]))) w' := by
  have hb := h.get q1 hq1
  have hd := h.drop q2
  refine hd.join q q1 h1 (r := Res.visP base p ov l) (s := Res.own base 33 1 (.slice a lv.beds.length c) lv.beds.length (lv.beds.map (Value.int .i64))) (by rw [List.getElem?_set_ne (Ne.symm h2)]; exact hq) (by rw [List.getElem?_set_ne (Ne.symm h3)]; exact hq1) (hC.mono fun k _ e => u3 k e) ?_ ?_ hlo
  · refine ⟨us ++ [.slice a lv.beds.length c], by simp [u1], by rw [cellsV_snoc _ _ _ _ u1, List.length_append]; exact hrow, fun k hk => .inr (.inr hk), fun i hi => ?_⟩
    by_cases hlt : i < l.length
    · obtain ⟨a', c', h4, h5, h6⟩ := u4 i hlt
      rw [List.getElem_append_left hlt, List.getElem?_append_left (by omega)]
      exact ⟨a', c', h4, own_chg h5 hC (typesV u2 h5 (by decide)), fun k hk => .inl (h6 k hk)⟩
    · have : i = l.length := by simp at hi; omega
      subst this
      rw [List.getElem_append_right (Nat.le_refl _), List.getElem?_append_right (by omega)]
      simp only [u1, Nat.sub_self]
      exact ⟨a, c, by simp, own_chg hb hC (typesV u2 hb (by decide)), fun k hk => .inr (.inl hk)⟩
  · rintro k (hk | hk | hk)
    · exact .inl hk
    · exact .inr (.inl hk)
    · rcases hn k hk with h1 | h1
      · exact .inl (u3 k h1)
      · exact .inr (.inr h1)
theorem lik_snoc {γ : Type} {ks : List Lik} {i lo base : Nat} {m : γ → Nat} {rs : List Res} {rs' : γ → List Res} {w0 w' : World} {p : Nat → Prop} {ov nv : Value} {l : List LV} {us : List Value} {lv : LV} {a : Option Addr} {c : Nat} (x : Lat (fun b _ => lo ≤ b) w0) (hlo : lo ≤ w0.heap.size) (hk : (lAt ks i).p nv) (h : Frm lo rs x.world) (q q1 q2 : Nat) (h1 : q ≠ q1) (h2 : q ≠ q2) (h3 : q1 ≠ q2)
    (hq : rs[q]? = some (Res.visP base p ov l)) (hq1 : rs[q1]? = some (Res.own base 33 1 (.slice a lv.beds.length c) lv.beds.length (lv.beds.map (Value.int .i64))))
    (u1 : us.length = l.length) (u2 : x.world.ownsRow base 62 2 ov l.length (cellsV l us)) (u3 : ∀ k, ov.ownBlock = some k → p k) (u4 : ∀ i (h : i < l.length), ∃ a c, us[i]? = some (.slice a l[i].beds.length c) ∧ x.world.ownsRow base 33 1 (.slice a l[i].beds.length c) l[i].beds.length (l[i].beds.map (Value.int .i64)) ∧ ∀ k, (Value.slice a l[i].beds.length c).ownBlock = some k → p k)
    (hrow : w'.ownsRow base 62 2 nv (l.length + 1) (cellsV l us ++ [.int .i64 lv.player, .slice a lv.beds.length c])) (hC : Chg (fun k => ov.ownBlock = some k) x.world w') (hn : ∀ k, nv.ownBlock = some k → ov.ownBlock = some k ∨ (x.world.heap.size ≤ k ∧ k < w'.heap.size))
    (c' : γ) (hm : m c' ≤ x.world.heap.size) (he : ((rs.set q2 Res.none).set q1 Res.none).set q (Res.visP base (fun k => p k ∨ (Value.slice a lv.beds.length c).ownBlock = some k ∨ nv.ownBlock = some k) nv (l ++ [lv])) = rs' c') :
    (lAt ks i).p nv ∧ (∃ y : Lat (fun b _ => lo ≤ b) w0, w' = y.world) ∧ FrmE lo m rs' w' :=
  ⟨hk, ⟨x.chgd hC (fun k hk => .inr fun _ => (h.lt q hq k (u3 k hk)).1), rfl⟩, c', Nat.le_trans hm hC.size, he ▸ frm_snoc h q q1 q2 h1 h2 h3 hq hq1 u1 u2 u3 u4 hrow hC hn (Nat.le_trans hlo x.size)⟩
/-- Visits that can be read. -/
def VisN (w : World) (a : Option Addr) (l : List LV) : Prop :=
  ∀ i, (h : i < l.length) → ∃ b o ba bc, a = some ⟨b, o, none⟩ ∧ w.cell? ⟨b, o + i * 2, none⟩ = some (.int .i64 l[i].player) ∧ w.cell? ⟨b, o + i * 2 + 1, none⟩ = some (.slice ba l[i].beds.length bc) ∧ CellsAt w .i64 ba l[i].beds ∧ (ba = none → l[i].beds.length = 0 ∧ bc = 0)
theorem VisN.ext {w w' : World} {a : Option Addr} {l : List LV} (h : VisN w a l) (hx : Ext w w') : VisN w' a l := fun i hi => by
  obtain ⟨b, o, ba, bc, e, h1, h2, h3, h4⟩ := h i hi
  exact ⟨b, o, ba, bc, e, hx.cell h1, hx.cell h2, h3.ext hx, h4⟩
theorem VisF.reads {w : World} {base : Nat} {a : Option Addr} {n c : Nat} {l : List LV} (h : VisF w base (.slice a n c) l) : VisN w a l := fun i hi => by
  obtain ⟨us, h1, h2, h3⟩ := h
  obtain ⟨a', c', e'⟩ := own_shape h2
  cases e'
  obtain ⟨g, e, hc⟩ := own_cellsM h2 (by omega)
  obtain ⟨ba, bc, h4, h5⟩ := h3 i hi
  have h6 := cellsV_at l us i hi (by omega)
  have h7 : us[i]'(by omega) = .slice ba l[i].beds.length bc := by
    rw [List.getElem?_eq_getElem (by omega)] at h4
    injection h4
  rw [h7] at h6
  refine ⟨g, 0, ba, bc, e, by simpa using hc _ _ h6.1, by simpa using hc _ _ h6.2, fun j hj => ?_, fun e => ?_⟩
  · obtain ⟨b, e2, hb⟩ := own_cellsM h5 (by omega)
    exact ⟨b, 0, e2, by simpa using hb j (.int .i64 l[i].beds[j]) (by simp [hj])⟩
  · subst e
    obtain ⟨_, ⟨e1, e2⟩ | ⟨_, _, _, e1, _⟩⟩ := h5
    · injection e1 with _ _ e3
      exact ⟨e2, e3⟩
    · cases e1
end Go.Proofs.Ytpifdeglhalefaa
namespace Go.Proofs.Ytpifdeglhalefaa
open Go.RowKit Go.BigFrame
attribute [local go_sem] Later.cell Later.frozen Lat.cell Lat.frozen
theorem VisF.begin (w : World) : VisF (w.alloc (.cells #[] 62)) w.heap.size (.slice (some ⟨w.heap.size, 0, none⟩) 0 0) [] := ⟨[], rfl, own_empty rfl (Nat.le_refl _), fun i hi => absurd hi (by simp)⟩
theorem frm_first {lo base : Nat} {p : Nat → Prop} {v : Value} {l : List LV} {w : World} (h : VisP w base p v l) (hp : ∀ k, p k → lo ≤ k ∧ k < w.heap.size) : Frm lo [Res.visP base p v l, Res.none, Res.none] w := by
  have h0 : Frm lo [Res.none, Res.none, Res.none] w := Frm.nones lo 3 w
  exact h0.upd 0 (S := fun _ => False) (r' := Res.visP base p v l) (Chg.refl _ w) (fun _ _ _ _ _ _ h => h) h hp (fun i s hi hs k _ hk => by
    match i, hi, hs with
    | 1, _, hs => cases hs; exact hk
    | 2, _, hs => cases hs; exact hk)
set_option maxRecDepth 100000 in
set_option maxHeartbeats 4000000 in
theorem pub_Visits (l : List LV) (a : Option Addr) (n c : Nat) (w : World) (h : VisN w a l) (hn : l.length = n) (hl : n ≤ 1000000) (hb : ∀ v ∈ l, v.beds.length ≤ 1000000) :
    Calls Try.prog 17 #[.slice a n c] w fun e w' => ∃ v, e = .returned v ∧ VisF w' w.heap.size v l ∧ Ext w w' := by
  have HN := Lib.hid hn
  have HV := Lib.hid h
  have HB := Lib.hid hb
  clear h hn hb
  go_enter Try.func17, Try.ntmps17
  go_upto_region 3 with fail
  have HV0 := Lib.hid (show VisF (w.alloc (.cells #[] 62)) w.heap.size (.slice (some ⟨w.heap.size, 0, none⟩) 0 0) (l.take 0) from VisF.begin w)
  have HX0 := Lib.hid ((Ext.refl w).alloc (.cells #[] 62))
  go_loopw [3, 4] (fun lv iv wr => ∃ k : Nat, iv = .int .i64 (k : Nat) ∧ k ≤ n ∧ VisF wr w.heap.size lv (l.take k) ∧ Ext w wr) (fun _ iv _ => n - (intOf iv).toNat)
  case atStart => exact ⟨0, rfl, by omega, HV0.out, HX0.out⟩
  case round =>
    rename_i lv iv
    obtain ⟨k, rfl, hk, hv, hx⟩ := hrel
    obtain ⟨w4, rfl⟩ : ∃ y, y = wr := ⟨_, rfl⟩
    clear HV0 HX0
    have HV4 := Lib.hid hv
    have HX4 := Lib.hid hx
    have HTL : Hid ((l.take k).length = k) := Lib.hid (by rw [List.length_take, HN.out]; omega)
    obtain ⟨oa, oc, e⟩ := hv.shape
    rw [HTL.out] at e
    subst e
    clear hv hx
    by_cases hlt : k < n
    · have hlt' : (k : Int) < (n : Int) := by omega
      have hkl : k < l.length := by rw [HN.out]; exact hlt
      obtain ⟨b, o, ba, bc, rfl, c0, c1, hbc, hbn⟩ := HV.out k hkl
      have hvb := HB.out _ (List.getElem_mem hkl)
      have HTK := Lib.hid (List.take_succ_eq_append_getElem hkl)
      obtain ⟨v, hv⟩ : ∃ y, l[k] = y := ⟨_, rfl⟩
      rw [hv] at c0 c1 hbc hbn hvb HTK
      obtain ⟨m, hm⟩ : ∃ y, v.beds.length = y := ⟨_, rfl⟩
      rw [hm] at c1 hbn hvb
      have HM := Lib.hid hm
      have hlob : ¬ (w.heap.size ≤ b) := by have h1 := lt_of_cell c0; simp only at h1; omega
      have c0 := HX4.out.cell c0
      have c1 := HX4.out.cell c1
      have l0 := lt_of_cell c0
      have l1 := lt_of_cell c1
      have HW4 := Lib.hid HX4.out.size
      have hcp := fun W (hX : Chg (fun b => w.heap.size ≤ b) w4 W) => pub_Copy v.beds ba bc W (hbc.ext (Chg.to_ext HX4.out hX (fun _ h => h))) (by rw [hm]; exact hvb) (by rw [hm]; exact hbn)
      rw [hm] at hcp
      have HP := Lib.hid hcp
      obtain ⟨pv, hpv⟩ : ∃ y : Nat → Prop, y = fun k => w.heap.size ≤ k ∧ k < w4.heap.size := ⟨_, rfl⟩
      have HFR : Hid (Frm w.heap.size [Res.visP w.heap.size pv (.slice oa k oc) (l.take k), Res.none, Res.none] w4) := Lib.hid (frm_first (by rw [hpv]; exact HV4.out.own) (by rw [hpv]; exact fun _ h => h))
      simp only at l0 l1 c0 c1
      clear hv hm hbc hbn hcp hpv hkl hvb
      go_upto_region 5 with fail
      refine wp_region_calls (by kernel_rfl) [.no, .no, .no, .no, .no, .no, .no, .no, .no, .no, .no, .slc m, .no, .box 1, .slc (k + 1)] w.heap.size (fun _ => 0)
        (fun (_ : Unit) L u => [bif L 14 then Res.visP w.heap.size (fun b => pv b ∨ (u 11).ownBlock = some b ∨ (u 14).ownBlock = some b) (u 14) (l.take k ++ [v]) else Res.visP w.heap.size pv (.slice oa k oc) (l.take k),
          bif L 14 then Res.none else bif L 11 then Res.own w.heap.size 33 1 (u 11) m (v.beds.map (Value.int .i64)) else Res.none,
          bif L 14 then Res.none else bif L 13 then Res.own w.heap.size 62 2 (u 13) 1 [.int .i64 v.player, u 11] else Res.none])
        () (by kernel_rfl) (Nat.le_of_ble_eq_true rfl) (fun c L L' u hh => by simp only [hh 11 rfl, hh 13 rfl, hh 14 rfl]) (Nat.zero_le _) (fun _ => HFR.out) ?_
      intro T hT hne u hu
      obtain ⟨ca, cc, u11⟩ : ∃ a c, u 11 = .slice a m c := hu 11 rfl
      obtain ⟨kb, u13⟩ : ∃ k, u 13 = .slice (some ⟨k, 0, none⟩) 1 1 := hu 13 rfl
      obtain ⟨na, nc, u14⟩ : ∃ a c, u 14 = .slice a (k + 1) c := hu 14 rfl
      clear hu
      refine lx_next 11 (by rfl) (by decide) ?_
      dsimp only [List.take, List.drop]
      repeat (go_big_quiet_step (fail))
      refine wpQuiet_nil ?_
      refine lx_loud (by rfl) (by kernel_rfl) ?_ (fun K hK => ?_)
      · intro L w3 hL hd hcl hC hs
        obtain ⟨x, rfl⟩ := hC
        obtain ⟨c, hmc, hs⟩ := hs
        have hzs := x.size
        have h13 := hcl.off hL 40 13 (by kernel_rfl)
        have h14 := hcl.off hL 40 14 (by kernel_rfl)
        simp only [hL, h13, h14, cond_false] at hs
        have hX : Chg (fun b => w.heap.size ≤ b) w4 x.world := x.chg.mono (by rintro i _ ⟨_, h⟩; exact h)
        have HS0 := Lib.hid hs
        clear hs
        go_wp2_with fail
        refine (HP.out _ hX).mono ?_
        rintro e w' ⟨cv, rfl, ho, hx⟩
        obtain ⟨qa, qc, rfl⟩ := own_shape ho
        go_wp2
        exact lik_set x HW4.out ⟨_, _, rfl⟩ HS0.out 1 (r' := Res.own w.heap.size 33 1 (.slice qa m qc) m (v.beds.map (Value.int .i64))) rfl (hx.chg _) (own_mono ho (Nat.le_trans HW4.out hzs)) (fun k hk => .inr (World.ownsRow.lt ho k hk)) () (Nat.zero_le _) (by first | (simp [upd, updv, h13, h14, hL]; done) | (simp [upd, updv, h13, h14, hL]; rfl))
      rw [u11]
      go_simp
      with_reducible refine hK _ ?_
      clear hK K
      refine lx_next 1 (by rfl) (by decide) ?_
      dsimp only [List.take, List.drop]
      repeat (go_big_quiet_step (fail))
      refine wpQuiet_nil ?_
      refine lx_loud (by rfl) (by kernel_rfl) ?_ (fun K hK => ?_)
      · intro L w3 hL hd hcl hC hs
        obtain ⟨x, rfl⟩ := hC
        obtain ⟨c, hmc, hs⟩ := hs
        have hzs := x.size
        have h14 := hcl.off hL 40 14 (by kernel_rfl)
        have h11 := hcl.onW (i := 11) 40 (hd 12 (by kernel_rfl)) (by kernel_rfl)
        simp only [hL, h14, h11, cond_true, cond_false] at hs
        rw [u11] at hs
        have HS0 := Lib.hid hs
        clear hs
        go_wp2
        exact lik_set x HW4.out ⟨_, rfl⟩ HS0.out 2 (r' := Res.own w.heap.size 62 2 (.slice (some ⟨x.world.heap.size, 0, none⟩) 1 1) 1 [.int .i64 v.player, .slice ca m cc]) rfl (((Ext.refl x.world).alloc _).chg _) (own_box (Nat.le_trans HW4.out hzs) (by decide) rfl) (fun k hk => .inr (by rw [← own_blkW hk]; simp)) () (Nat.zero_le _) (by first | (simp [upd, updv, h14, h11, hL, u11]; done) | (simp [upd, updv, h14, h11, hL, u11]; rfl))
      rw [u13]
      go_simp
      with_reducible refine hK _ ?_
      clear hK K
      refine lx_loud (by rfl) (by kernel_rfl) ?_ (fun K hK => ?_)
      · intro L w3 hL hd hcl hC hs
        obtain ⟨x, rfl⟩ := hC
        obtain ⟨c, hmc, hs⟩ := hs
        have hzs := x.size
        have h11 := hd 11 (by kernel_rfl)
        have h13 := hd 13 (by kernel_rfl)
        simp only [hL, h11, h13, cond_true, cond_false] at hs
        rw [u11, u13] at hs
        have HS0 := Lib.hid hs
        clear hs
        obtain ⟨us, hu1, hu2, hu3, hu4⟩ : VisP x.world w.heap.size pv (.slice oa k oc) (l.take k) := HS0.out.get 0 rfl
        rw [HTL.out] at hu2
        have HU1 := Lib.hid hu1
        have HU2 := Lib.hid hu2
        have HU3 := Lib.hid hu3
        have HU4 := Lib.hid hu4
        clear hu1 hu2 hu3 hu4
        refine wp_append_sep rfl _ _ 57 62 _ 2 32 rfl info_visW (by kernel_rfl) rfl (by decide) w.heap.size (.slice oa k oc) k (cellsV (l.take k) us) rfl HU2.out w.heap.size kb 1 1 [.int .i64 v.player, .slice ca m cc] rfl (HS0.out.get 2 rfl) (by intro u hu; simp only [List.mem_cons, List.not_mem_nil, or_false] at hu; rcases hu with rfl | rfl <;> rfl) (by omega) (by decide) (Nat.le_trans HW4.out hzs) ?_
        intro v' w' ho4 hC4 hn4
        obtain ⟨av, ac, rfl⟩ := own_shape ho4
        go_wp2
        exact lik_snoc x HW4.out ⟨_, _, rfl⟩ HS0.out 0 1 2 (by decide) (by decide) (by decide) (lv := v) (a := ca) (c := cc) rfl (by rw [HM.out]; rfl) HU1.out (by rw [HTL.out]; exact HU2.out) HU3.out HU4.out (by rw [HTL.out, HM.out]; exact ho4) hC4 hn4 () (Nat.zero_le _) (by rw [HM.out]; first | (simp [upd, updv, h11, h13, hL, u11, u13]; done) | (simp [upd, updv, h11, h13, hL, u11, u13]; rfl))
      rw [u14]
      go_simp
      with_reducible refine hK _ ?_
      clear hK K
      refine lx_next 1 (by rfl) (by decide) ?_
      dsimp only [List.take, List.drop]
      repeat (go_big_quiet_step (fail))
      refine wpQuiet_nil ?_
      refine lx_nil ?_
      intro x hs
      obtain ⟨_, -, hs⟩ := hs
      rw [u14] at hs
      have hv6 := (show VisP x.world w.heap.size _ (.slice na (k + 1) nc) (l.take k ++ [v]) from hs.get 0 rfl).fin
      have hX : Chg (fun b => w.heap.size ≤ b) w4 x.world := x.chg.mono (by rintro i _ ⟨_, h⟩; exact h)
      clear hs hT hne u11 u13 u14
      have HV6 := Lib.hid hv6
      have HX6 := Lib.hid (Chg.to_ext HX4.out hX (fun _ h => h))
      obtain ⟨w6, hw6⟩ : ∃ y, x.world = y := ⟨_, rfl⟩
      rw [hw6] at HV6 HX6 ⊢
      clear hv6 hX hw6 x c0 c1 l0 l1 HP HFR HV4 HX4 HW4
      go_wp2
      go_roundw
      case rel => exact ⟨k + 1, by go_num, by omega, by rw [HTK.out]; exact HV6.out, HX6.out⟩
      case measure => simp [intOf]; omega
    · have hlt' : ¬ (k : Int) < (n : Int) := by omega
      have hk : l.take k = l := List.take_of_length_le (by rw [HN.out]; omega)
      rw [hk] at HV4
      clear hk
      go_wp2
      go_ret
      exact ⟨_, rfl, HV4.out, HX4.out⟩
end Go.Proofs.Ytpifdeglhalefaa
