/-
  Package board: slices.Max, plan.most, best.
-/
import Derived.Test.YtlkbbcfbnbnagaaGreatBoT
namespace Go.Proofs.YtlkbbcfbnbnagaaGreat
open Go.RowKit Go.Shelf
attribute [local go_sem] Oper.semAt_some Later.cell Later.frozen Lat.cell Lat.frozen NoX
def maxL (xs : List Int) : Int := (xs.drop 1).foldl max (xs.headD 0)
def maxTo (xs : List Int) (k : Nat) : Int := ((xs.drop 1).take k).foldl max (xs.headD 0)
theorem maxTo_succ (xs : List Int) (k : Nat) (h : k + 1 < xs.length) : maxTo xs (k + 1) = max (maxTo xs k) xs[k + 1] := by
  unfold maxTo
  have h1 : k < (xs.drop 1).length := by simp; omega
  rw [List.take_succ_eq_append_getElem h1, List.foldl_append]
  simp []
theorem maxTo_last (xs : List Int) (k : Nat) (h : xs.length ≤ k + 1) : maxTo xs k = maxL xs := by
  unfold maxTo maxL
  rw [List.take_of_length_le (by simp; omega)]
set_option maxRecDepth 100000 in
theorem max_i (xs : List Int) (a : Option Addr) (c : Nat) (w : World) (hx : CellsAt w .i64 a xs) (h0 : 0 < xs.length) (hl : xs.length ≤ 1000000) :
    Calls Tryz.prog 34 #[.slice a xs.length c] w fun e w' => e = .returned (.int .i64 (maxL xs)) ∧ Ext w w' := by
  have HX := Lib.hid hx
  obtain ⟨b, o, rfl, hc0⟩ := hx 0 h0
  obtain ⟨n, hn⟩ : ∃ n, xs.length = n := ⟨_, rfl⟩
  have HN := Lib.hid hn
  have hm0 : maxTo xs 0 = xs[0] := by unfold maxTo; cases xs with
    | nil => simp at h0
    | cons y l => rfl
  have HM0 := Lib.hid hm0
  rw [Nat.add_zero] at hc0
  generalize xs[0] = x0 at *
  rw [hn] at h0 hl ⊢
  have hb := lt_of_cell hc0
  simp only at hb
  clear hx hn hm0
  go_enter Tryz.func34, Tryz.ntmps34
  go_wp2
  go_loopw [3, 4] (fun m i wr => ∃ k : Nat, k + 1 ≤ n ∧ m = .int .i64 (maxTo xs k) ∧ i = .int .i64 (k + 1 : Nat) ∧ Ext w wr) (fun _ i _ => n - (intOf i).toNat)
  case atStart => exact ⟨0, by omega, by rw [HM0.out], by rfl, Ext.refl w⟩
  case round =>
    obtain ⟨k, hk, rfl, rfl, hx1⟩ := hrel
    by_cases hlt : k + 1 < n
    · have hkl : k + 1 < xs.length := by rw [HN.out]; exact hlt
      obtain ⟨b', o', e, c1⟩ := HX.out (k + 1) hkl
      cases e
      replace c1 := hx1.cell c1
      have hs := maxTo_succ xs k hkl
      have HS := Lib.hid hs
      generalize xs[k + 1] = y at *
      have hbl := lt_of_cell c1
      simp only at hbl
      clear hs hkl
      go_wp2
      go_roundw
      case rel => exact ⟨k + 1, by omega, by rw [HS.out]; congr 1; omega, by go_num, hx1⟩
      case measure => simp [intOf]; omega
    · have e := maxTo_last xs k (by rw [HN.out]; omega)
      have HE := Lib.hid e
      clear e
      go_wp2
      go_ret
      exact ⟨ret_int HE.out, hx1⟩
set_option maxRecDepth 100000 in
theorem brd_most (ta : Value) (xs : List Int) (a : Option Addr) (c : Nat) (w : World) (hx : CellsAt w .i64 a xs) (h0 : 0 < xs.length) (hl : xs.length ≤ 1000000) :
    Calls Tryz.prog 32 #[.agg #[ta, .slice a xs.length c]] w fun e w' => e = .returned (.int .i64 (maxL xs)) ∧ Ext w w' := by
  have HM := Lib.hid (fun W (h : Ext w W) => max_i xs a c W (hx.ext h) h0 hl)
  generalize maxL xs = m at *
  obtain ⟨n, hn⟩ : ∃ n, xs.length = n := ⟨_, rfl⟩
  rw [hn] at HM ⊢
  clear hx h0 hl hn
  go_enter Tryz.func32, Tryz.ntmps32
  go_wp2_with fail
  refine (HM.out _ ((Ext.refl w).alloc _)).mono ?_
  rintro e w1 ⟨rfl, hx1⟩
  go_wp2
  go_ret
  exact ⟨rfl, ((Ext.refl w).alloc _).trans hx1⟩
def bestStep (b : Option (List Int × List Int)) (p : List Int × List Int) : Option (List Int × List Int) :=
  match b with
  | none => some p
  | some q => if maxL p.2 < maxL q.2 then some p else some q
def bestL (l : List (List Int × List Int)) : Option (List Int × List Int) := l.foldl bestStep none
theorem bestL_snoc (l : List (List Int × List Int)) (p : List Int × List Int) : bestL (l ++ [p]) = bestStep (bestL l) p := by unfold bestL; rw [List.foldl_append]; rfl
def BestAt (S : Nat → Prop) (n : Nat) (W : World) (b : Nat) (o : Option (List Int × List Int)) : Prop :=
  ∃ lt lw, Blk W b #[lt, lw] ∧ ((o = none ∧ lt = .slice none 0 0 ∧ lw = .slice none 0 0) ∨ ∃ p, o = some p ∧ RdI S W lt p.1 ∧ RdI S W lw p.2 ∧ p.2.length = n)
theorem Kc.grown {S : Nat → Prop} {A B : World} {row : Option Nat} (h : A.grownBy B row) (hr : ∀ r, row = some r → ∃ o : Obj, A.heap[r]? = some o ∧ o.isCells = false) : Kc S A B :=
  ⟨h.size, fun k cs t f hk _ => by
    have hne : some k ≠ row := by
      intro e
      obtain ⟨o, h1, h2⟩ := hr k e.symm
      rw [hk] at h1; cases h1; cases h2
    exact (h.block k (Array.getElem?_eq_some_iff.1 hk).1 hne).trans hk⟩
theorem BestAt.keep {S : Nat → Prop} {n : Nat} {A B : World} {b : Nat} {o : Option (List Int × List Int)} (h : BestAt S n A b o) (k : Kc (fun _ => False) A B) : BestAt S n B b o := by
  obtain ⟨lt, lw, h1, h2⟩ := h
  have k' : Kc S A B := ⟨k.size, fun i cs t f hi _ => k.keep i cs t f hi id⟩
  refine ⟨lt, lw, k.blk h1 id, ?_⟩
  rcases h2 with h2 | ⟨p, e, h3, h4, h5⟩
  · exact .inl h2
  · exact .inr ⟨p, e, h3.keep k', h4.keep k', h5⟩
theorem Lat.ext0 {w : World} (x : Lat NoX w) : Ext w x.world := Chg.to_ext (Ext.refl w) (Lat.chg x) (by rintro i ⟨o, h⟩; exact h.elim)
set_option maxRecDepth 100000 in
/-- The iterator of best. -/
theorem best1_seq (n' B2 B3 n : Nat) (S : Nat → Prop) (worn : List Int) (wks : List (List Int)) (wa ka : Option Addr) (wn wc kn kc : Nat) (w : World) (hn : 0 < n ∧ n ≤ 1000) (hS : ∀ k, S k → k < w.heap.size) (h2 : Blk w B2 #[.slice wa wn wc]) (h3 : Blk w B3 #[.slice ka kn kc]) (_hs2 : ¬ S B2) (_hs3 : ¬ S B3)
    (hw : RdI S w (.slice wa wn wc) worn) (hwl : worn.length = n) (hfew : wks.length ≤ 100) (hb : ∀ y ∈ worn, 0 ≤ y ∧ y + 1000000000 * wks.length ≤ 1000000000000) (hok : wksOk n wks) (hk : WksAt S w (.slice ka kn kc) wks) :
    SeqV n' Tryz.prog 53 #[.pointer (some ⟨B2, 0, none⟩), .pointer (some ⟨B3, 0, none⟩)] (fun x : Pl => #[x.agg]) (fun _ => PlV S n 0) (Kc S) (fun xs => xs.map plOf = plansL wks [] worn) w := by
  intro l J W hx hJ hY h0
  have hcall := brd_plans l (n' - 1) n W.heap.size S J hJ (fun k hk => Nat.lt_of_lt_of_le (hS k hk) hx.size) hn hY wks ⟨[], worn, .slice none 0 0, .slice wa wn wc⟩ (.slice ka kn kc) [] W (Nat.le_refl _) h0 ⟨.inl ⟨rfl, rfl⟩, hw.keep (.of_ext hx), hwl, by simp; omega, hb⟩ hok (hk.keep (.of_ext hx))
  have HC := Lib.hid hcall
  have c2 := (h2.ext hx).cell 0 (v := .slice wa wn wc) rfl
  have c3 := (h3.ext hx).cell 0 (v := .slice ka kn kc) rfl
  have l2 := (h2.ext hx).lt
  have l3 := (h3.ext hx).lt
  unfold Pl.agg at *
  simp only at HC
  refine callsIn_wide.2 ?_
  clear hcall hY h0 hx hJ h2 h3 hw hwl hb hok hk
  simp only [List.append_toArray, List.nil_append, List.cons_append]
  go_enter Tryz.func53, Tryz.ntmps53
  go_wp2_with fail
  refine HC.out.mono ?_
  rintro e w1 ⟨rfl, ⟨xs, hxs, hj⟩, -⟩
  go_wp2
  refine bodyPost_end (results_none rfl _ _ _) rfl ?_
  exact ⟨⟨_, rfl⟩, xs, hxs, hj⟩
end Go.Proofs.YtlkbbcfbnbnagaaGreat
