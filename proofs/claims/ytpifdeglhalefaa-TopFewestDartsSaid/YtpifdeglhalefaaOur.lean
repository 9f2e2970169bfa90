/-
  Package out: what ways knows while it hands on.
-/
import Derived.Test.YtpifdeglhalefaaOuq
import Derived.Test.YtpifdeglhalefaaRcj
import Derived.ArgAppend
namespace Go.Proofs.Ytpifdeglhalefaa
open Go.RowKit Go.BigFrame
theorem KpW.ofg {K : Nat} {A C : World} {row : Option Nat} (hg : A.grownBy C row) (hr : ∀ r, row = some r → ∃ o : Obj, A.heap[r]? = some o ∧ o.isCells = false) (hv : ∃ v, Blk A K #[v]) : KpW K A C := by
  obtain ⟨v, t, hK⟩ := hv
  have hne : ∀ k cs t f, A.heap[k]? = some (.cells cs t f) → some k ≠ row := fun k cs t f hk e => by
    obtain ⟨o, h1, h2⟩ := hr k e.symm
    rw [hk] at h1
    cases h1
    cases h2
  have hKC := (hg.block K (Array.getElem?_eq_some_iff.1 hK).1 (hne _ _ _ _ hK))
  exact ⟨hg.size, fun k cs t f hk _ _ => (hg.block k (Array.getElem?_eq_some_iff.1 hk).1 (hne _ _ _ _ hk)).trans hk, fun k ⟨v, h1, h2⟩ => .inl ⟨v, by rw [← h1]; exact (World.cell?_of_block hKC).symm, h2⟩, fun _ => ⟨v, t, hKC.trans hK⟩⟩
theorem kf_ext {B : Nat} {A C : World} (h : Ext A C) : KeepsFrom B A C := ⟨h.size, fun _ _ _ hk _ => h.heap hk⟩
theorem kf_grown {B : Nat} {A A' C : World} {row : Option Nat} (h : KeepsFrom B A A') (hg : A'.grownBy C row) (hr : ∀ r, row = some r → A.heap.size ≤ r) : KeepsFrom B A C :=
  ⟨Nat.le_trans h.size hg.size, fun k o hB hk ho => (hg.block k (Nat.lt_of_lt_of_le (Array.getElem?_eq_some_iff.1 hk).1 h.size) (fun e => by have := hr k e.symm; have := (Array.getElem?_eq_some_iff.1 hk).1; omega)).trans (h.same k o hB hk ho)⟩
theorem kf_up {B B' : Nat} {A C : World} (h : KeepsFrom B A C) (hb : B ≤ B') : KeepsFrom B' A C := ⟨h.size, fun k o hB hk ho => h.same k o (Nat.le_trans hb hB) hk ho⟩
theorem wpList_wanted {P : Program} {ops : Array Oper} {Q : Exit → Act → World → Prop} {a : Act} {w : World} {rest : List Oper} {o : Oper} (hw : Region.wanted o (yielded ops a.tmps) = true) (h : ∀ K : Act → World → Prop, (∀ a w, wpList P ops Q rest a w → K a w) → o.wp P a w K Q) : wpList P ops Q (o :: rest) a w :=
  wpList_step fun K hK => by simp only [hw, if_true]; exact h K hK
/-- The arm that grows alone, behind a guard. -/
theorem wpList_append_growsW {P : Program} (w : World) {ops : Array Oper} {rest : List Oper} {o : Oper} {a : Act} {Q : Exit → Act → World → Prop}
    (hg : Region.wanted o (yielded ops a.tmps) = true) (s x : Operand) (t : TypeId) (hop : o.op = Op.call { callee := Callee.builtin Builtin.append, args := #[s, x], argTypes := #[t, t] })
    (e : TypeId) (i : TypeInfo) (z : Value) (size bytes : Nat) (h1 : P.underlying t = some (.slice e)) (h2 : P.info? e = some i) (h3 : i.zero = some z) (h4 : i.size = size) (h5 : i.bytes = bytes) (h6 : z.cells.size = size) (h7 : 0 < size)
    (ao : Option Addr) (n cap : Nat) (olds : List Value) (hs : a.eval s = .slice ao n cap) (hnone : ao = none → n = 0 ∧ cap = 0) (hlo : olds.length = n * size) (holds : ∀ b, ao = some b → ∀ j u, olds[j]? = some u → w.cell? (b.add j) = some u)
    (ad : Addr) (m c : Nat) (news : List Value) (hx : a.eval x = .slice (some ad) m c) (hn : news.length = m * size) (hc : ∀ j u, news[j]? = some u → w.cell? (ad.add j) = some u) (h1c : ∀ u ∈ news, u.oneCell' = true)
    (hfull : cap < n + m) (b1 : n + m ≤ maxLen) (b2 : (n + m) * bytes ≤ 140737488355328)
    (hK : ∀ v' w', w'.ownsRow w.heap.size e size v' (n + m) (olds ++ news) → w.grownBy w' none → wpList P ops Q rest (a.put o.dst v') w') :
    wpList P ops Q (o :: rest) a w := by
  refine wpList_wanted hg fun K hK' => ?_
  cases ao with
  | some b =>
    obtain ⟨v', w', hrun, r1, r2⟩ := run_append_arg_grows (P := P) w t o.type e i z size bytes h1 h2 h3 h4 h5 h6 h7 b n cap olds hlo (holds b rfl) ad m c news hn hc hfull b1 b2
    unfold Oper.wp
    simp [execOp, hop, resolve, invoke, builtin, hs, hx, hrun, Result.andThen]
    exact hK' _ _ (hK v' w' r1 r2)
  | none =>
    obtain ⟨rfl, rfl⟩ := hnone rfl
    obtain rfl : olds = [] := List.eq_nil_of_length_eq_zero (by simpa using hlo)
    obtain ⟨v', w', hrun, r1, r2, _⟩ := run_append_own (P := P) w w.heap.size t o.type e i z size bytes h1 h2 h3 h4 h5 h6 h7 (.slice none 0 0) 0 [] (World.ownsRow_nil w _ e size) ad m c news hn hc h1c b1 b2 (Nat.le_refl _)
    unfold Oper.wp
    simp [execOp, hop, resolve, invoke, builtin, hs, hx, hrun, Result.andThen]
    exact hK' _ _ (hK v' w' r1 r2)
/-- A list of beds as it is handed on. -/
def encW (K : Nat) (way : List Int) (W : World) (vs : Array Value) : Prop := Vd K W ∧ ∃ a c, vs = #[.slice a way.length c] ∧ RdK K W (.slice a way.length c) way
theorem encW.ofg {K : Nat} {way : List Int} {A C : World} {vs : Array Value} {row : Option Nat} (h : encW K way A vs) (hg : A.grownBy C row) (hr : ∀ r, row = some r → ∃ o : Obj, A.heap[r]? = some o ∧ o.isCells = false) : encW K way C vs := by
  obtain ⟨hv, a, c, e, h1⟩ := h
  have hk := KpW.ofg hg hr hv.1
  exact ⟨hv.kp hk, a, c, e, h1.kp hk⟩
theorem RdK.safe {K : Nat} {W : World} {base : Nat} {t : TypeId} {v : Value} {xs : List Int} (h : W.ownsRow base t 1 v xs.length (xs.map (Value.int .i64))) (hS : ∀ k, base ≤ k → k < W.heap.size → SafeB K W k) : RdK K W v xs := by
  obtain ⟨h1, ⟨e1, h2⟩ | ⟨g, cap, cur, e1, h2, h3, h4, h5, h6, h7⟩⟩ := h
  · exact .inl ⟨e1, List.length_eq_zero_iff.1 h2⟩
  · refine .inr ⟨g, 0, cap, cur, _, _, e1, h4, h5, fun e => e (hS g h2 (Array.getElem?_eq_some_iff.1 h3).1), h3, fun i hi => ?_⟩
    have : (cur.toList.take (xs.length * 1))[i]? = some (.int .i64 xs[i]) := by rw [h7]; simp [hi]
    rw [List.getElem?_take_of_lt (by omega)] at this
    simpa using this
/-- The ways that begin with some beds. -/
def wyP (g : Int) (beds : List Int) (rows : List (List Int)) (k : Nat) (first : List Int) (p : Int × Int) : List (List Int) := if 0 < (rows.getD k []).getD p.2.toNat 0 then wayO g beds rows k p.2 (first ++ [p.1]) else []
theorem wayO_succ (g : Int) (beds : List Int) (rows : List (List Int)) (k : Nat) (s : Int) (first : List Int) : wayO g beds rows (k + 1) s first = (thwO g beds s).flatMap (wyP g beds rows k first) := rfl
/-- What is known of the variables of ways. -/
structure WyF (K kb p5 p7 p8 p9 p10 : Nat) (k : Int) (l : Nat) (beds : List Int) (g : Int) (rows : List (List Int)) (ba : Option Addr) (bc : Nat) (cv : Value) (first : List Int) (fa : Option Addr) (fc : Nat) (W : World) : Prop where
  vd : Vd K W
  b5 : BoxK K W p5 #[.pointer (some ⟨kb, 0, none⟩)]
  b7 : BoxK K W p7 #[.int .i64 k]
  b8 : BoxK K W p8 #[.slice fa first.length fc]
  b9 : BoxK K W p9 #[.func (.yield l) #[] #[]]
  b10 : W.heap[p10]? = some (.cells #[.bool false] 4 (0, 0)) ∧ SafeB K W p10
  brd : BdK K W kb beds g rows ba bc cv
  fst : RdK K W (.slice fa first.length fc) first
theorem WyF.kp {K kb p5 p7 p8 p9 p10 l : Nat} {k : Int} {beds : List Int} {g : Int} {rows : List (List Int)} {ba : Option Addr} {bc : Nat} {cv : Value} {first : List Int} {fa : Option Addr} {fc : Nat} {A B : World} (h : WyF K kb p5 p7 p8 p9 p10 k l beds g rows ba bc cv first fa fc A) (hk : KpW K A B) : WyF K kb p5 p7 p8 p9 p10 k l beds g rows ba bc cv first fa fc B :=
  ⟨h.vd.kp hk, h.b5.kp hk, h.b7.kp hk, h.b8.kp hk, h.b9.kp hk, ⟨hk.keep _ _ _ _ h.b10.1 h.b10.2.2.1 h.b10.2.2.2, h.b10.2.kp hk⟩, h.brd.kp hk, h.fst.kp hk⟩
theorem WyF.ext {K kb p5 p7 p8 p9 p10 l : Nat} {k : Int} {beds : List Int} {g : Int} {rows : List (List Int)} {ba : Option Addr} {bc : Nat} {cv : Value} {first : List Int} {fa : Option Addr} {fc : Nat} {A B : World} (h : WyF K kb p5 p7 p8 p9 p10 k l beds g rows ba bc cv first fa fc A) (hk : Ext A B) : WyF K kb p5 p7 p8 p9 p10 k l beds g rows ba bc cv first fa fc B := h.kp (.of_ext hk h.vd.lt)
/-- All ways with just so many beds are handed on. -/
def WaysK (K4 B1 B2 l kb : Nat) (g : Int) (beds : List Int) (rows : List (List Int)) (ba : Option Addr) (bc : Nat) (cv : Value) (J : List (List Int) → World → Prop) (most N : Nat) (k : Nat) : Prop :=
  ∀ (s : Nat) (first : List Int) (fa : Option Addr) (fc : Nat) (pre : List (List Int)) (W : World), s ≤ most → k < rows.length + 1 → first.length + k ≤ 1000 → B1 ≤ W.heap.size → B2 ≤ W.heap.size + 2 → Vd K4 W → BdK K4 W kb beds g rows ba bc cv → RdK K4 W (.slice fa first.length fc) first → J pre W → pre.length + (wayO g beds rows k s first).length ≤ N →
    Calls Try.prog 74 #[.pointer (some ⟨kb, 0, none⟩), .int .i64 s, .int .i64 k, .slice fa first.length fc, .func (.yield l) #[] #[]] W fun e W' => e = .returned (.bool true) ∧ J (pre ++ wayO g beds rows k s first) W' ∧ KpW K4 W W' ∧ KeepsFrom B2 W W'
theorem Shut.ownF {β : Type} {lo : Nat} {I : β → World → Prop} (hI : OwnFrom lo I) {s : β} {A B : World} (h : Shut lo A B) (ha : I s A) : I s B := by
  induction h with
  | refl => exact ha
  | put h hD hK ih => exact hI.putObj _ ih hD hK rfl
/-- What is known while a bed is put to the first ones and the rest is handed on. -/
structure GWy (K B2 : Nat) (J J' : World → Prop) (W0 : World) (x : Int) (first : List Int) (L : Nat → Bool) (u : Nat → Value) (W : World) : Prop where
  kp : KpW K W0 W
  kf : KeepsFrom B2 W0 W
  j0 : L 24 = false → J W
  j1 : L 24 = true → J' W
  s21 : L 21 = true → ∃ b, u 21 = .slice (some ⟨b, 0, none⟩) 1 1 ∧ BoxK K W b #[.int .i64 x]
  s22 : L 22 = true → RdK K W (u 22) (first ++ [x])
theorem GWy.congr {K B2 : Nat} {J J' : World → Prop} {W0 W : World} {x : Int} {first : List Int} {L L' : Nat → Bool} {u u' : Nat → Value} (h : GWy K B2 J J' W0 x first L u W) (h21 : L' 21 = L 21) (h22 : L' 22 = L 22) (h24 : L' 24 = L 24) (u21 : u' 21 = u 21) (u22 : u' 22 = u 22) : GWy K B2 J J' W0 x first L' u' W :=
  ⟨h.kp, h.kf, by rw [h24]; exact h.j0, by rw [h24]; exact h.j1, by rw [h21, u21]; exact h.s21, by rw [h22, u22]; exact h.s22⟩
theorem GWy.ext {K B2 : Nat} {J J' : World → Prop} (hJ : ∀ A B, J A → Ext A B → J B) (hJ' : ∀ A B, J' A → Ext A B → J' B) {W0 W W' : World} (hV : Vd K W0) {x : Int} {first : List Int} {L : Nat → Bool} {u : Nat → Value} (h : GWy K B2 J J' W0 x first L u W) (hx : Ext W W') : GWy K B2 J J' W0 x first L u W' :=
  have hk : KpW K W W' := .of_ext hx (Nat.lt_of_lt_of_le hV.lt h.kp.size)
  ⟨h.kp.trans hk, h.kf.trans (kf_ext hx), fun e => hJ _ _ (h.j0 e) hx, fun e => hJ' _ _ (h.j1 e) hx, fun e => let ⟨b, h1, h2⟩ := h.s21 e; ⟨b, h1, h2.kp hk⟩, fun e => (h.s22 e).kp hk⟩
/-- A count of ways, where it lies. -/
theorem BdK.at2 {K : Nat} {W : World} {kb : Nat} {beds : List Int} {g : Int} {rows : List (List Int)} {ba : Option Addr} {bc : Nat} {cv : Value} (h : BdK K W kb beds g rows ba bc cv) {i : Nat} (hi : i < rows.length) {j : Nat} (hj : j < rows[i].length) : ∃ cb cc rb ro rc, cv = .slice (some ⟨cb, 0, none⟩) rows.length cc ∧ ∀ B, KpW K W B → (B.cell? ⟨cb, i, none⟩ = some (.slice (some ⟨rb, ro, none⟩) rows[i].length rc) ∧ B.cell? ⟨rb, ro + j, none⟩ = some (.int .i64 rows[i][j])) ∧ cb < B.heap.size ∧ rb < B.heap.size := by
  obtain ⟨cb, cc, cs, t, f, h1, h2, h3, h4⟩ := h.rows_
  obtain ⟨a, c, h5, h6⟩ := h4 i hi
  rcases h6 with ⟨e, e2⟩ | ⟨b, o, c', cs2, t2, f2, h7, h8, h9, h10, h11, h12⟩
  · rw [e2] at hj; simp at hj
  · cases h7
    refine ⟨cb, cc, b, o, c, h1, fun B hk => ?_⟩
    have hs : SafeB K W b := Classical.not_not.1 h10
    have k1 := hk.keep _ _ _ _ h3 h2.2.1 h2.2.2
    have k2 := hk.keep _ _ _ _ h11 hs.2.1 hs.2.2
    exact ⟨⟨by simp [World.cell?, k1, h5], by simp [World.cell?, k2, h12 j hj]⟩, (h2.kp hk).1, (hs.kp hk).1⟩
def RWy (m : Nat) (k : Nat) (v : Value) : Prop := (k = 21 → ∃ b, v = .slice (some ⟨b, 0, none⟩) 1 1) ∧ (k = 22 → ∃ a c, v = .slice a m c) ∧ (k = 24 → v = .bool true)
def wWy (m : Nat) (k : Nat) : Value := if k = 21 then .slice (some ⟨0, 0, none⟩) 1 1 else if k = 22 then .slice none m 0 else .bool true
theorem wWy_ok (m k : Nat) : RWy m k (wWy m k) := by
  unfold RWy wWy
  refine ⟨?_, ?_, ?_⟩ <;> rintro rfl
  · exact ⟨0, rfl⟩
  · exact ⟨none, 0, rfl⟩
  · rfl
theorem Calls.fk {P : Program} {C T : World → Prop} (hC : Stays C) (hT : Stays T) {x : FkT C T} {f : FuncId} {args : Array Value} {v : Value} (h : Calls P f args x.toFk.world fun e w' => e = .returned v ∧ Ext x.toFk.world w') :
    Calls P f args x.toFk.world fun e w'' => e = .returned v ∧ ∃ y : FkT C T, w'' = y.toFk.world :=
  h.mono fun _ _ ⟨he, hx⟩ => ⟨he, ⟨⟨_, hC _ _ x.ok hx⟩, hT _ _ x.stay hx⟩, rfl⟩
end Go.Proofs.Ytpifdeglhalefaa
