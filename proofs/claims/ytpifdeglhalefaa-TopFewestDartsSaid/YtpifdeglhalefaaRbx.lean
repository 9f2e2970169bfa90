/-
  Regions that draw their order and make one variable. Slices of beds; append of one of them to a clipped slice. Over any program but for the types' numbers.
-/
import Derived.Test.YtpifdeglhalefaaKcp
import Derived.Test.YtpifdeglhalefaaRci
import Derived.ArgAppend
namespace Go.Proofs.Ytpifdeglhalefaa
open Go.RowKit Go.BigFrame
structure BoxG (a s : Nat) (z f : Array Value) (base : Nat) (L : Nat → Bool) (u : Nat → Value) (W : World) : Prop where
  at_ : L a = true → ∃ k, u a = .pointer (some ⟨k, 0, none⟩) ∧ base ≤ k ∧ Blk W k (bif L s then f else z)
theorem BoxG.ext {a s : Nat} {z f : Array Value} {base : Nat} {L : Nat → Bool} {u : Nat → Value} {W W' : World} (h : BoxG a s z f base L u W) (hx : Ext W W') : BoxG a s z f base L u W' := ⟨fun e => let ⟨k, h1, h2, h3⟩ := h.at_ e; ⟨k, h1, h2, h3.ext hx⟩⟩
theorem BoxG.congr {a s : Nat} {z f : Array Value} {base : Nat} {L L' : Nat → Bool} {u : Nat → Value} {W : World} (h : BoxG a s z f base L u W) (ea : L' a = L a) (es : L' s = L s) : BoxG a s z f base L' u W := ⟨fun e => let ⟨k, h1, h2, h3⟩ := h.at_ (ea ▸ e); ⟨k, h1, h2, by rw [es]; exact h3⟩⟩
def BoxR (a k : Nat) (v : Value) : Prop := ∃ b, k = a → v = .pointer (some ⟨b, 0, none⟩)
def boxN (a s k : Nat) : Bool := k == a || k == s
/-- What some operations hand back. -/
def RsIs (l : List (Nat × Value)) (k : Nat) (v : Value) : Prop := match l.lookup k with
  | none => True
  | some x => v = x
def rsW (l : List (Nat × Value)) (k : Nat) : Value := (l.lookup k).getD undef
theorem rsW_ok (l : List (Nat × Value)) (k : Nat) : RsIs l k (rsW l k) := by
  unfold RsIs rsW
  cases l.lookup k <;> simp
/-- A slice of beds that a call owns. -/
def OwnD (w : World) (base : Nat) (v : Value) (xs : List Int) : Prop := w.ownsRow base 33 1 v xs.length (xs.map (Value.int .i64))
theorem info_bed : (Try.prog.info? 33).map (fun i => (i.zero, i.size, i.bytes)) = some (some (.int .i64 0), 1, 8) := by kernel_rfl
theorem OwnD.nil (w : World) (base : Nat) : OwnD w base (.slice none 0 0) [] := World.ownsRow_nil w base _ _
theorem OwnD.ext {w w' : World} {base : Nat} {v : Value} {xs : List Int} (h : OwnD w base v xs) (hx : Ext w w') : OwnD w' base v xs := own_chg h (hx.chg fun _ => False) fun _ _ => id
theorem OwnD.shape {w : World} {base : Nat} {v : Value} {xs : List Int} (h : OwnD w base v xs) : ∃ a c, v = .slice a xs.length c := own_shape h
theorem OwnD.rd {S : Nat → Prop} {W : World} {base : Nat} {v : Value} {xs : List Int} (h : OwnD W base v xs) (hS : ∀ k, base ≤ k → ¬ S k) : RdI S W v xs := by
  obtain ⟨h1, ⟨e, h2⟩ | ⟨g, cap, cur, e, h2, h3, h4, h5, h6, h7⟩⟩ := h
  · exact .inl ⟨e, List.length_eq_zero_iff.1 h2⟩
  · refine .inr ⟨g, 0, cap, cur, _, _, e, h4, h5, hS g h2, h3, fun i hi => ?_⟩
    have : (cur.toList.take (xs.length * 1))[i]? = some (.int .i64 xs[i]) := by rw [h7]; simp [hi]
    rw [List.getElem?_take_of_lt (by omega)] at this
    simpa using this
/-- The arm that grows alone, inside a fence. -/
theorem wpListIn_append_grows {P : Program} {F : Fence} {nF : Nat} (w : World) {ops : Array Oper} {rest : List Oper} {o : Oper} {a : Act} {Q : Exit → Act → World → Prop}
    (hg : o.guard = none) (s x : Operand) (t : TypeId) (hop : o.op = Op.call { callee := Callee.builtin Builtin.append, args := #[s, x], argTypes := #[t, t] })
    (e : TypeId) (i : TypeInfo) (z : Value) (size bytes : Nat) (h1 : P.underlying t = some (.slice e)) (h2 : P.info? e = some i) (h3 : i.zero = some z) (h4 : i.size = size) (h5 : i.bytes = bytes) (h6 : z.cells.size = size) (h7 : 0 < size)
    (ao : Option Addr) (n cap : Nat) (olds : List Value) (hs : a.eval s = .slice ao n cap) (hnone : ao = none → n = 0 ∧ cap = 0) (hlo : olds.length = n * size) (holds : ∀ b, ao = some b → ∀ j u, olds[j]? = some u → w.cell? (b.add j) = some u)
    (ad : Addr) (m c : Nat) (news : List Value) (hx : a.eval x = .slice (some ad) m c) (hn : news.length = m * size) (hc : ∀ j u, news[j]? = some u → w.cell? (ad.add j) = some u) (h1c : ∀ u ∈ news, u.oneCell' = true)
    (hfull : cap < n + m) (b1 : n + m ≤ maxLen) (b2 : (n + m) * bytes ≤ 140737488355328)
    (hK : ∀ v' w', w'.ownsRow w.heap.size e size v' (n + m) (olds ++ news) → w.grownBy w' none → wpListIn F nF P ops Q rest (a.put o.dst v') w') :
    wpListIn F nF P ops Q (o :: rest) a w := by
  refine wpListIn_plain hg fun K hK' => ?_
  cases ao with
  | some b =>
    obtain ⟨v', w', hrun, r1, r2⟩ := run_append_arg_grows (P := P) w t o.type e i z size bytes h1 h2 h3 h4 h5 h6 h7 b n cap olds hlo (holds b rfl) ad m c news hn hc hfull b1 b2
    unfold Oper.wpIn
    refine ⟨by simp [Oper.about, hop, resolve, Target.leads, Sem.run_pure], ?_⟩
    rw [Oper.semAt_plain F _ _ (by rw [hop]; intro c hc'; cases hc')]
    simp [execOp, hop, resolve, invoke, builtin, hs, hx, hrun, Result.andThen]
    exact hK' _ _ (hK v' w' r1 r2)
  | none =>
    obtain ⟨rfl, rfl⟩ := hnone rfl
    obtain rfl : olds = [] := List.eq_nil_of_length_eq_zero (by simpa using hlo)
    obtain ⟨v', w', hrun, r1, r2, _⟩ := run_append_own (P := P) w w.heap.size t o.type e i z size bytes h1 h2 h3 h4 h5 h6 h7 (.slice none 0 0) 0 [] (World.ownsRow_nil w _ e size) ad m c news hn hc h1c b1 b2 (Nat.le_refl _)
    unfold Oper.wpIn
    refine ⟨by simp [Oper.about, hop, resolve, Target.leads, Sem.run_pure], ?_⟩
    rw [Oper.semAt_plain F _ _ (by rw [hop]; intro c hc'; cases hc')]
    simp [execOp, hop, resolve, invoke, builtin, hs, hx, hrun, Result.andThen]
    exact hK' _ _ (hK v' w' r1 r2)
set_option maxRecDepth 100000 in
theorem clip_d (a : Option Addr) (n c : Nat) (w : World) (hnil : a = none → n = 0 ∧ c = 0) (hn : n ≤ c) (hc : c ≤ maxLen) (hb : ∀ ad, a = some ad → ∃ b o, ad = ⟨b, o, none⟩) :
    Calls Try.prog 101 #[.slice a n c] w fun e w' => e = .returned (.slice a n n) ∧ Ext w w' := by
  unfold maxLen at hc
  have hcc : (n : Int) ≤ (c : Int) := by omega
  cases a with
  | none =>
    obtain ⟨rfl, rfl⟩ := hnil rfl
    clear hnil hb
    go_enter Try.func101, Try.ntmps101
    go_wp2
    go_ret
    exact ⟨rfl, Ext.refl _⟩
  | some ad =>
    obtain ⟨b, o, rfl⟩ := hb ad rfl
    clear hnil hb
    go_enter Try.func101, Try.ntmps101
    go_wp2
    go_ret
    exact ⟨rfl, Ext.refl _⟩
end Go.Proofs.Ytpifdeglhalefaa
