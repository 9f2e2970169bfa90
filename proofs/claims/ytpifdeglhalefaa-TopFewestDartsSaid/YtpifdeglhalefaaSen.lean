/-
  Regions that draw their order and hold calls that make memory: what each call left, as it was then. Over any program.
-/
import Derived.Test.YtpifdeglhalefaaProg
import Derived.OwnWalk
import Derived.Test.YtpifdeglhalefaaBase
import Derived.Laws.AppendOwnNone
import Derived.StillTail
import Derived.Maps.AppendAt
namespace Go.Proofs.Ytpifdeglhalefaa
open Go.RowKit
/-- A slice of integers that begins a row of one's own, in a block from base on. -/
def OwnI (w : World) (base : Nat) (v : Value) (xs : List Int) : Prop := w.ownsRow base 3 1 v xs.length (xs.map (Value.int .i64))
def OwnB (w : World) (base : Nat) (v : Value) (xs : List Bool) : Prop := w.ownsRow base 4 1 v xs.length (xs.map Value.bool)
theorem info_int : (Try.prog.info? 3).map (fun i => (i.zero, i.size, i.bytes)) = some (some (.int .i64 0), 1, 8) := by kernel_rfl
theorem info_bool : (Try.prog.info? 4).map (fun i => (i.zero, i.size, i.bytes)) = some (some (.bool false), 1, 1) := by kernel_rfl
theorem OwnI.nil (w : World) (base : Nat) : OwnI w base (.slice none 0 0) [] := World.ownsRow_nil w base _ _
theorem OwnB.nil (w : World) (base : Nat) : OwnB w base (.slice none 0 0) [] := World.ownsRow_nil w base _ _
theorem own_mono {w : World} {base base' : Nat} {e : TypeId} {size : Nat} {v : Value} {n : Nat} {xs : List Value} (h : w.ownsRow base e size v n xs) (hb : base' ≤ base) : w.ownsRow base' e size v n xs := by
  obtain ⟨h1, h2 | ⟨g, cap, cur, e1, h2, h3⟩⟩ := h
  · exact ⟨h1, .inl h2⟩
  · exact ⟨h1, .inr ⟨g, cap, cur, e1, Nat.le_trans hb h2, h3⟩⟩
theorem own_chg {w w' : World} {S : Nat → Prop} {base : Nat} {e : TypeId} {size : Nat} {v : Value} {n : Nat} {xs : List Value} (h : w.ownsRow base e size v n xs) (hx : Chg S w w') (hs : ∀ k, v.ownBlock = some k → ¬ S k) : w'.ownsRow base e size v n xs := by
  obtain ⟨h1, h2 | ⟨g, cap, cur, e1, h2, h3, h4⟩⟩ := h
  · exact ⟨h1, .inl h2⟩
  · exact ⟨h1, .inr ⟨g, cap, cur, e1, h2, hx.heap h3 (hs g (by rw [e1]; rfl)), h4⟩⟩
theorem OwnI.chg {w w' : World} {S : Nat → Prop} {base : Nat} {v : Value} {xs : List Int} (h : OwnI w base v xs) (hx : Chg S w w') (hs : ∀ k, v.ownBlock = some k → ¬ S k) : OwnI w' base v xs := own_chg h hx hs
theorem OwnI.ext {w w' : World} {base : Nat} {v : Value} {xs : List Int} (h : OwnI w base v xs) (hx : Ext w w') : OwnI w' base v xs := own_chg h (hx.chg fun _ => False) fun _ _ => id
theorem OwnB.chg {w w' : World} {S : Nat → Prop} {base : Nat} {v : Value} {xs : List Bool} (h : OwnB w base v xs) (hx : Chg S w w') (hs : ∀ k, v.ownBlock = some k → ¬ S k) : OwnB w' base v xs := own_chg h hx hs
theorem OwnB.ext {w w' : World} {base : Nat} {v : Value} {xs : List Bool} (h : OwnB w base v xs) (hx : Ext w w') : OwnB w' base v xs := own_chg h (hx.chg fun _ => False) fun _ _ => id
/-- An owned slice is a slice, its cells read as what it owns. -/
theorem OwnI.cells {w : World} {base : Nat} {v : Value} {xs : List Int} (h : OwnI w base v xs) : ∃ a c, v = .slice a xs.length c ∧ CellsAt w .i64 a xs := by
  have hc := fun g (hg : v.ownBlock = some g) => World.ownsRow.cells (w := w) (g := g) h hg
  obtain ⟨h1, ⟨e, h2⟩ | ⟨g, cap, cur, e, h2, h3, h4⟩⟩ := h
  · have : xs = [] := List.length_eq_zero_iff.1 h2
    subst this
    exact ⟨none, 0, e, CellsAt.nil _ _ _⟩
  · refine ⟨some ⟨g, 0, none⟩, cap, e, fun i hi => ⟨g, 0, rfl, ?_⟩⟩
    have := hc g (by rw [e]; rfl) i (.int .i64 xs[i]) (by simp [hi])
    have hadd : (⟨g, 0, none⟩ : Addr).add i = ⟨g, 0 + i, none⟩ := by unfold Addr.add; split <;> simp_all
    rwa [hadd] at this
theorem grown_chg {w w' : World} {row : Option Nat} (h : w.grownBy w' row) : Chg (fun k => row = some k) w w' := ⟨h.os, h.tape, h.output, h.size, fun k hk hs => h.block k hk (fun e => hs e.symm)⟩
theorem Ext.grown {a w w' : World} {v : Value} (hx : Ext a w) (h : w.grownBy w' v.ownBlock) (hb : ∀ k, v.ownBlock = some k → a.heap.size ≤ k) : Ext a w' := Chg.to_ext hx (grown_chg h) hb
theorem OwnI.from {w : World} {base : Nat} {v : Value} {xs : List Int} (h : OwnI w base v xs) : ∀ k, v.ownBlock = some k → base ≤ k := fun k hk => (World.ownsRow.lt h k hk).1
theorem wp_append_i {w : World} {ops : Array Oper} {rest : List Oper} {o : Oper} {a : Act} {Q : Exit → Act → World → Prop} (hgd : o.guard = none) (s x : Operand)
    (ho : o.op = .call { callee := .builtin .append, args := #[s, x], argTypes := #[25, 25] }) (base : Nat) (v : Value) (xs : List Int) (hs : a.eval s = v) (hown : OwnI w base v xs) (ad : Addr) (c : Nat) (n : Int)
    (hx : a.eval x = .slice (some ad) 1 c) (hn : w.cell? ad = some (.int .i64 n)) (hlen : xs.length ≤ 1000000000000) (hbase : base ≤ w.heap.size)
    (h : ∀ v' w', OwnI w' base v' (xs ++ [n]) → w.grownBy w' v.ownBlock → wpList Try.prog ops Q rest (a.put o.dst v') w') : wpList Try.prog ops Q (o :: rest) a w := by
  obtain ⟨i0, hi, hz0, hz1, hz2⟩ := info_parts info_int
  refine wpList_append_own w hgd s x 25 ho base 3 i0 (.int .i64 0) 1 8 (by kernel_rfl) hi hz0 hz1 hz2 rfl (by decide) v xs.length _ hs hown ad 1 c [.int .i64 n] hx rfl ?_ ?_ (by unfold maxLen; omega) (by omega) hbase ?_
  · intro j u hj
    match j, hj with
    | 0, hj => simp at hj; subst hj; simpa [Addr.add] using hn
  · intro u hu; simp at hu; subst hu; rfl
  · intro v' w' ho' hg _
    refine h v' w' ?_ hg
    unfold OwnI
    simpa using ho'
theorem wp_append_bo {w : World} {ops : Array Oper} {rest : List Oper} {o : Oper} {a : Act} {Q : Exit → Act → World → Prop} (hgd : o.guard = none) (s x : Operand)
    (ho : o.op = .call { callee := .builtin .append, args := #[s, x], argTypes := #[58, 58] }) (base : Nat) (v : Value) (xs : List Bool) (hs : a.eval s = v) (hown : OwnB w base v xs) (ad : Addr) (c : Nat) (n : Bool)
    (hx : a.eval x = .slice (some ad) 1 c) (hn : w.cell? ad = some (.bool n)) (hlen : xs.length ≤ 1000000000000) (hbase : base ≤ w.heap.size)
    (h : ∀ v' w', OwnB w' base v' (xs ++ [n]) → w.grownBy w' v.ownBlock → wpList Try.prog ops Q rest (a.put o.dst v') w') : wpList Try.prog ops Q (o :: rest) a w := by
  obtain ⟨i0, hi, hz0, hz1, hz2⟩ := info_parts info_bool
  refine wpList_append_own w hgd s x 58 ho base 4 i0 (.bool false) 1 1 (by kernel_rfl) hi hz0 hz1 hz2 rfl (by decide) v xs.length _ hs hown ad 1 c [.bool n] hx rfl ?_ ?_ (by unfold maxLen; omega) (by omega) hbase ?_
  · intro j u hj
    match j, hj with
    | 0, hj => simp at hj; subst hj; simpa [Addr.add] using hn
  · intro u hu; simp at hu; subst hu; rfl
  · intro v' w' ho' hg _
    refine h v' w' ?_ hg
    unfold OwnB
    simpa using ho'
end Go.Proofs.Ytpifdeglhalefaa
namespace Go.Proofs.Ytpifdeglhalefaa
open Go.RowKit
theorem own_empty {w : World} {base size n : Nat} {e : TypeId} (hn : n = w.heap.size) (hb : base ≤ n) : (w.alloc (.cells #[] e)).ownsRow base e size (.slice (some ⟨n, 0, none⟩) 0 0) 0 [] := by
  subst hn
  refine ⟨by simp, .inr ⟨w.heap.size, 0, #[], rfl, hb, ?_, Nat.le_refl _, by unfold maxLen; omega, by simp, by simp⟩⟩
  show (w.heap.push _)[w.heap.size]? = _
  simp
theorem wp_append_vals {P : Program} {w : World} {ops : Array Oper} {rest : List Oper} {o : Oper} {a : Act} {Q : Exit → Act → World → Prop} (hgd : o.guard = none) (s x : Operand) (t e : TypeId) (z : Value) (size bytes : Nat)
    (ho : o.op = .call { callee := .builtin .append, args := #[s, x], argTypes := #[t, t] }) (hinfo : (P.info? e).map (fun i => (i.zero, i.size, i.bytes)) = some (some z, size, bytes)) (ht : P.underlying t = some (.slice e)) (hzs : z.cells.size = size) (hpos : 0 < size)
    (base : Nat) (v : Value) (n : Nat) (xs : List Value) (hs : a.eval s = v) (hown : w.ownsRow base e size v n xs) (ya : Option Addr) (m c : Nat) (news : List Value) (hx : a.eval x = .slice ya m c) (hnil : ya = none → m = 0 ∧ c = 0)
    (hl : news.length = m * size) (hc : ∀ ad, ya = some ad → ∀ j u, news[j]? = some u → w.cell? (ad.add j) = some u) (h1 : ∀ u ∈ news, u.oneCell' = true) (hsz : n + m ≤ 1000000000) (hby : bytes ≤ 100000) (hbase : base ≤ w.heap.size)
    (h : ∀ v' w', w'.ownsRow base e size v' (n + m) (xs ++ news) → w.grownBy w' v.ownBlock → wpList P ops Q rest (a.put o.dst v') w') : wpList P ops Q (o :: rest) a w := by
  obtain ⟨i0, hi, hz0, hz1, hz2⟩ := info_parts hinfo
  cases ya with
  | none =>
    obtain ⟨rfl, rfl⟩ := hnil rfl
    have : news = [] := List.length_eq_zero_iff.1 (by simpa using hl)
    subst this
    exact wpList_append_own_none hgd s x t ho base e i0 size ht hi v n xs hs hown hx (h v w (by simpa using hown) (World.grownBy.refl _ _))
  | some ad =>
    refine wpList_append_own w hgd s x t ho base e i0 z size bytes ht hi hz0 hz1 hz2 hzs hpos v n xs hs hown ad m c news hx hl (hc ad rfl) h1 (by unfold maxLen; omega) ?_ hbase (fun v' w' h1 h2 _ => h v' w' h1 h2)
    exact Nat.le_trans (Nat.mul_le_mul (by omega : n + m ≤ 1000000000) hby) (by decide)
theorem addr_add (b o i : Nat) : (⟨b, o, none⟩ : Addr).add i = ⟨b, o + i, none⟩ := by unfold Addr.add; split <;> simp_all
theorem CellsAt.vals {w : World} {k : IntKind} {a : Option Addr} {xs : List Int} (h : CellsAt w k a xs) : ∀ ad, a = some ad → ∀ j u, (xs.map (Value.int k))[j]? = some u → w.cell? (ad.add j) = some u := by
  intro ad ha j u hu
  rw [List.getElem?_map, Option.map_eq_some_iff] at hu
  obtain ⟨x, hx, rfl⟩ := hu
  obtain ⟨hj, rfl⟩ := List.getElem?_eq_some_iff.1 hx
  obtain ⟨b, o, e, hc⟩ := h j hj
  rw [ha] at e
  cases e
  rw [addr_add]; exact hc
theorem ints_one (k : IntKind) (xs : List Int) : ∀ u ∈ xs.map (Value.int k), u.oneCell' = true := by
  intro u hu
  obtain ⟨x, _, rfl⟩ := List.mem_map.1 hu
  rfl
/-- A row of integers that is owned reads as these. -/
theorem own_cells_i {w : World} {base : Nat} {e : TypeId} {v : Value} {k : IntKind} {xs : List Int} (h : w.ownsRow base e 1 v xs.length (xs.map (Value.int k))) : ∃ a c, v = .slice a xs.length c ∧ CellsAt w k a xs := by
  have hc := fun g (hg : v.ownBlock = some g) => World.ownsRow.cells (w := w) (g := g) h hg
  obtain ⟨h1, ⟨e, h2⟩ | ⟨g, cap, cur, e, h2, h3, h4⟩⟩ := h
  · have : xs = [] := List.length_eq_zero_iff.1 h2
    subst this
    exact ⟨none, 0, e, CellsAt.nil _ _ _⟩
  · refine ⟨some ⟨g, 0, none⟩, cap, e, fun i hi => ⟨g, 0, rfl, ?_⟩⟩
    have := hc g (by rw [e]; rfl) i (.int k xs[i]) (by simp [hi])
    rwa [addr_add] at this
end Go.Proofs.Ytpifdeglhalefaa
namespace Go.Proofs.Ytpifdeglhalefaa
open Go.RowKit

/-- One operation, run: what it hands back and the world behind it go to S. -/
def Gives (P : Program) (o : Oper) (ρ : Operand → Value) (w : World) (S : Value → World → Prop) : Prop :=
  match (execOp ρ o).run P w with
  | .ok (.value v) w' => S v w'
  | .ok .skip w' => S undef w'
  | .ok (.enter f args) w' => Calls P f args w' fun e w'' => ∃ v, e = .returned v ∧ S v w''
  | .ok (.row row args) w' => Rows P row args w' S
  | _ => False
theorem Gives.mono {P : Program} {o : Oper} {ρ : Operand → Value} {w : World} {S T : Value → World → Prop} (h : Gives P o ρ w S) (hst : ∀ v w', S v w' → T v w') : Gives P o ρ w T := by
  unfold Gives at *
  split at h
  · exact hst _ _ h
  · exact hst _ _ h
  · exact h.mono fun e w'' ⟨v, he, hs⟩ => ⟨v, he, hst _ _ hs⟩
  · exact h.mono fun v w'' hs => hst _ _ hs
  · exact h.elim
/-- A call that returns hands back one value. -/
theorem calls_unique {P : Program} {f : FuncId} {args : Array Value} {w : World} {v v' : Value} {A B : World → Prop} (h : Calls P f args w fun e w' => e = .returned v ∧ A w') (h' : Calls P f args w fun e w' => e = .returned v' ∧ B w') : v = v' := by
  let c : Frame := { (default : Frame) with todo := [.code (.refuse "")], mode := .run, defers := [] }
  have hfin : ∀ x, c.finish x = c := fun x => rfl
  have hend : ∀ w, ∃ o w', step P (lone c [] w) = .ended o w' := fun w => ⟨_, _, step_lone_ended (o := .unsupported (.elab "") (c.pos P)) (w' := w) (by simp [stepG, stepG.exec, c])⟩
  obtain ⟨e, w1, fr, ⟨rfl, _⟩, hs, _, hl⟩ := h [c]
  obtain ⟨e', w2, fr', ⟨rfl, _⟩, hs', _, hl'⟩ := h' [c]
  obtain ⟨n, hn⟩ : Steps _ _ _ := hs
  obtain ⟨m, hm⟩ : Steps _ _ _ := hs'
  have far : ∀ {n m : Nat} {fr fr' : Frame} {w1 w2 : World} {v : Value}, runN P n (lone (Frame.enter P f args .normal) [c] w) = .next (lone fr [c] w1) → fr.leaving P w1 (.returned v) →
      runN P m (lone (Frame.enter P f args .normal) [c] w) = .next (lone fr' [c] w2) → n < m → False := by
    intro n m fr fr' w1 w2 v hn hl hm hlt
    obtain ⟨k, rfl⟩ : ∃ k, m = n + (k + 1) := ⟨m - n - 1, by omega⟩
    rw [runN_add, hn] at hm
    have h1 := step_leave_returned (c := c) (cs := []) hl
    rw [hfin] at h1
    simp only [runN, h1] at hm
    cases k with
    | zero =>
      simp only [runN] at hm
      injection hm with hm
      have := congrArg (fun m : Machine => (m.gs.map (·.callers))) hm
      simp [lone] at this
    | succ k =>
      obtain ⟨o, w', h2⟩ := hend w1
      simp only [runN, h2] at hm
      cases hm
  rcases Nat.lt_trichotomy n m with hlt | heq | hlt
  · exact (far hn hl hm hlt).elim
  · subst heq
    rw [hn] at hm
    injection hm with hm
    have hg := congrArg (fun m : Machine => (m.gs.map (·.frame))) hm
    have hw := congrArg (fun m : Machine => m.world) hm
    simp [lone] at hg hw
    subst hg; subst hw
    obtain ⟨_, _, _, fn, hf, hr⟩ := hl
    obtain ⟨_, _, _, fn', hf', hr'⟩ := hl'
    rw [hf] at hf'; cases hf'
    rw [hr] at hr'; cases hr'; rfl
  · exact (far hm hl' hn hlt).elim
/-- A quiet operation, run in a world of its class. -/
theorem quiet_gives {P : Program} {o : Oper} {a : Act} {C : World → Prop} {v : Value} {w : World} (h : o.quietAt P a C w v) {S : Value → World → Prop} (hw : C w) (hs : ∀ w', C w' → S v w') : Gives P o a.eval w S := by
  unfold Oper.quietAt at h
  unfold Gives
  generalize (execOp a.eval o).run P w = r at *
  cases r with
  | ok x w' =>
    cases x <;> simp only [Oper.quietUpon] at h ⊢
    case value u => obtain ⟨rfl, rfl⟩ := h; exact hs _ hw
    case skip => obtain ⟨rfl, rfl⟩ := h; exact hs _ hw
    case enter f args => obtain ⟨rfl, h⟩ := h; exact h.mono fun e w'' ⟨he, hc⟩ => ⟨v, he, hs _ hc⟩
  | halt x w' => exact h.elim
theorem quiet_unique {P : Program} {o : Oper} {a a' : Act} {C C' : World → Prop} {v v' : Value} {w : World} (h : o.quietAt P a C w v) (h' : o.quietAt P a' C' w v') (he : execOp a.eval o = execOp a'.eval o) : v = v' := by
  unfold Oper.quietAt at h h'
  rw [he] at h
  generalize (execOp a'.eval o).run P w = r at *
  cases r with
  | ok x w' =>
    cases x <;> simp only [Oper.quietUpon] at h h'
    case value u => rw [← h.2, h'.2]
    case skip => rw [h.2, h'.2]
    case enter f args => exact calls_unique (by have := h.2; rw [← h.1] at this; exact this) (by have := h'.2; rw [← h.1] at this; exact this)
  | halt x w' => exact h.elim

/-- What the lexical walk asks of a region's text: its edges lead back; whoever names a slot is ordered against its writer; each slot has one writer. -/
def dep (o : Oper) (k : Nat) : Bool := o.after.any fun e => Region.binds .any e && e.on == k
def names (ops : Array Oper) (o : Oper) : List Tmp := o.dst.toList ++ o.looksAt ops
def goodReg (ops : Array Oper) (N : Nat) : Bool :=
  Region.noSelect ops && (List.range ops.size).all fun i =>
    match ops[i]? with
    | none => true
    | some o => (o.after.all fun e => !Region.binds .any e || decide (e.on < i)) && (match o.dst with | some d => decide (d < N) | none => true) &&
      (List.range ops.size).all fun k => i == k || match ops[k]? with
        | none => true
        | some q => match q.dst with
          | none => true
          | some t => o.dst != some t && (!(o.looksAt ops).contains t || (if k < i then dep o k else dep q i))
structure GoodReg (ops : Array Oper) (N : Nat) : Prop where
  sel : Region.noSelect ops = true
  back : ∀ (i : Nat) (o : Oper), ops[i]? = some o → ∀ e ∈ o.after, Region.binds .any e = true → e.on < i
  dst : ∀ (i : Nat) (o : Oper) (d : Tmp), ops[i]? = some o → o.dst = some d → d < N
  one : ∀ (i k : Nat) (o q : Oper) (t : Tmp), ops[i]? = some o → ops[k]? = some q → i ≠ k → q.dst = some t → o.dst ≠ some t
  ord : ∀ (i k : Nat) (o q : Oper) (t : Tmp), ops[i]? = some o → ops[k]? = some q → i ≠ k → q.dst = some t → t ∈ o.looksAt ops → (k < i → dep o k = true) ∧ (i < k → dep q i = true)
theorem goodReg_spec {ops : Array Oper} {N : Nat} (h : goodReg ops N = true) : GoodReg ops N := by
  simp only [goodReg, Bool.and_eq_true, List.all_eq_true, List.mem_range] at h
  obtain ⟨h0, h1⟩ := h
  have key := fun i o (hi : ops[i]? = some o) => h1 i (Array.getElem?_eq_some_iff.1 hi).1
  refine ⟨h0, fun i o hi e he hb => ?_, fun i o d hi hd => ?_, fun i k o q t hi hk hne hq => ?_, fun i k o q t hi hk hne hq ht => ?_⟩
  · have := key i o hi
    simp only [hi, Bool.and_eq_true] at this
    have := Array.all_eq_true_iff_forall_mem.1 this.1.1 e he
    simpa [hb] using this
  · have := key i o hi
    simp only [hi, Bool.and_eq_true, hd] at this
    simpa using this.1.2
  · have := key i o hi
    simp only [hi, Bool.and_eq_true] at this
    have := List.all_eq_true.1 this.2 k (List.mem_range.2 (Array.getElem?_eq_some_iff.1 hk).1)
    simp only [hk, hq, Bool.or_eq_true, beq_iff_eq, hne, false_or, Bool.and_eq_true, bne_iff_ne] at this
    exact this.1
  · have := key i o hi
    simp only [hi, Bool.and_eq_true] at this
    have := List.all_eq_true.1 this.2 k (List.mem_range.2 (Array.getElem?_eq_some_iff.1 hk).1)
    simp only [hk, hq, Bool.or_eq_true, beq_iff_eq, hne, false_or, Bool.and_eq_true] at this
    have h2 := this.2
    have hc : (o.looksAt ops).contains t = true := by simpa using ht
    simp only [hc, Bool.not_true, Bool.false_eq_true, false_or] at h2
    refine ⟨fun hki => ?_, fun hik => ?_⟩
    · rw [if_pos hki] at h2; exact h2
    · rw [if_neg (by omega)] at h2; exact h2

section
variable (P : Program) (ops : Array Oper) (a0 : Act)
/-- The frame in which just the operations of L have been carried out, with these values. -/
structure Fm (L : Nat → Bool) (val : Nat → Value) (a : Act) : Prop where
  defers : a.defers = a0.defers
  size : a.tmps.size = a0.tmps.size
  on : ∀ (j : Nat) (o : Oper) (t : Tmp), ops[j]? = some o → L j = true → o.dst = some t → a.tmps[t]? = some (val j)
  off : ∀ t : Tmp, (∀ (j : Nat) (o : Oper), ops[j]? = some o → L j = true → o.dst ≠ some t) → a.tmps[t]? = a0.tmps[t]?
def upd (L : Nat → Bool) (i : Nat) : Nat → Bool := fun j => j == i || L j
def updv (u : Nat → Value) (i : Nat) (v : Value) : Nat → Value := fun j => if j = i then v else u j
def Closed (L : Nat → Bool) : Prop := ∀ (i : Nat) (o : Oper) (k : Nat), ops[i]? = some o → L i = true → dep o k = true → L k = true
end

section
variable {P : Program} {ops : Array Oper} {a0 : Act} {L : Nat → Bool} {val : Nat → Value} {a b : Act}
theorem Fm.unique (h : Fm ops a0 L val a) (k : Fm ops a0 L val b) : a = b := by
  have ht : a.tmps = b.tmps := by
    refine Array.ext_getElem? fun t => ?_
    by_cases hw : ∃ (j : Nat) (o : Oper), ops[j]? = some o ∧ L j = true ∧ o.dst = some t
    · obtain ⟨j, o, ho, hl, hd⟩ := hw
      rw [h.on j o t ho hl hd, k.on j o t ho hl hd]
    · have hn : ∀ (j : Nat) (o : Oper), ops[j]? = some o → L j = true → o.dst ≠ some t := fun j o ho hl hd => hw ⟨j, o, ho, hl, hd⟩
      rw [h.off t hn, k.off t hn]
  have hd : a.defers = b.defers := h.defers.trans k.defers.symm
  cases a; cases b; simp_all
theorem Act.put_tmps (a : Act) (d : Tmp) (v : Value) (t : Tmp) : (a.put (some d) v).tmps[t]? = if d = t ∧ t < a.tmps.size then some v else a.tmps[t]? := by
  simp only [Act.put, Array.getElem?_setIfInBounds]
  by_cases h : d = t
  · subst h
    by_cases h' : d < a.tmps.size
    · simp [h']
    · simp [h']
  · simp [h]
theorem Fm.put (g : GoodReg ops a0.tmps.size) (h : Fm ops a0 L val a) {i : Nat} {o : Oper} (hi : ops[i]? = some o) (hl : L i = false) {v : Value} {val' : Nat → Value} (hv : o.dst ≠ none → val' i = v) (hag : ∀ j, L j = true → j < ops.size → val' j = val j) :
    Fm ops a0 (upd L i) val' (a.put o.dst v) := by
  have e : ∀ j, upd L i j = true ↔ j = i ∨ L j = true := fun j => by simp [upd]
  cases hd : o.dst with
  | none =>
    refine ⟨h.defers, h.size, fun j q t hj hlj hq => ?_, fun t ht => h.off t fun j q hj hlj => ht j q hj ((e j).2 (.inr hlj))⟩
    rcases (e j).1 hlj with rfl | hlj
    · rw [hi] at hj; cases hj; rw [hd] at hq; cases hq
    · have := h.on j q t hj hlj hq
      rw [hag j hlj (Array.getElem?_eq_some_iff.1 hj).1]; exact this
  | some d =>
    have hdn := g.dst i o d hi hd
    refine ⟨h.defers, by simp [Act.put, h.size], fun j q t hj hlj hq => ?_, fun t ht => ?_⟩
    · rw [Act.put_tmps]
      rcases (e j).1 hlj with rfl | hlk
      · rw [hi] at hj; cases hj; rw [hd] at hq; cases hq
        rw [if_pos ⟨rfl, by rw [h.size]; exact hdn⟩, hv (by rw [hd]; exact fun h => by cases h)]
      · have hne : j ≠ i := by rintro rfl; rw [hl] at hlk; cases hlk
        rw [if_neg (by rintro ⟨rfl, _⟩; exact g.one i j o q _ hi hj (Ne.symm hne) hq hd), hag j hlk (Array.getElem?_eq_some_iff.1 hj).1]
        exact h.on j q t hj hlk hq
    · rw [Act.put_tmps, if_neg (by rintro ⟨rfl, _⟩; exact ht i o hi ((e i).2 (.inl rfl)) hd)]
      exact h.off t fun j q hj hlj => ht j q hj ((e j).2 (.inr hlj))
/-- Operation i sees the same whether those of L or all before it have been carried out. -/
theorem Fm.see (g : GoodReg ops a0.tmps.size) {i : Nat} {o : Oper} (hi : ops[i]? = some o) {val' : Nat → Value} (h : Fm ops a0 L val a) (k : Fm ops a0 (fun j => decide (j < i)) val' b) (hl : L i = false) (hc : Closed ops L) (hr : ∀ k, dep o k = true → L k = true)
    (hag : ∀ j, L j = true → j < i → val' j = val j) : ∀ t, t ∈ o.looksAt ops → a.tmps[t]? = b.tmps[t]? := by
  intro t ht
  by_cases hw : ∃ (j : Nat) (q : Oper), ops[j]? = some q ∧ q.dst = some t
  · obtain ⟨j, q, hj, hq⟩ := hw
    by_cases hji : j = i
    · subst hji
      rw [h.off t, k.off t]
      · intro m p hm hlm hp
        by_cases hmj : m = j
        · subst hmj; simp at hlm
        · exact g.one m j p q t hm hj hmj hq hp
      · intro m p hm hlm hp
        by_cases hmj : m = j
        · subst hmj; rw [hl] at hlm; cases hlm
        · exact g.one m j p q t hm hj hmj hq hp
    · have ho := g.ord i j o q t hi hj (Ne.symm hji) hq ht
      by_cases hlt : j < i
      · have hlj := hr j (ho.1 hlt)
        rw [h.on j q t hj hlj hq, k.on j q t hj (by simpa using hlt) hq, hag j hlj hlt]
      · have hlj : L j = false := by
          cases hh : L j with
          | false => rfl
          | true => have := hc j q i hj hh (ho.2 (by omega)); rw [hl] at this; cases this
        rw [h.off t, k.off t]
        · intro m p hm hlm hp
          by_cases hmj : m = j
          · subst hmj; simp at hlm; omega
          · exact g.one m j p q t hm hj hmj hq hp
        · intro m p hm hlm hp
          by_cases hmj : m = j
          · subst hmj; rw [hlj] at hlm; cases hlm
          · exact g.one m j p q t hm hj hmj hq hp
  · have hn : ∀ L : Nat → Bool, ∀ (j : Nat) (q : Oper), ops[j]? = some q → L j = true → q.dst ≠ some t := fun _ j q hj _ hq => hw ⟨j, q, hj, hq⟩
    rw [h.off t (hn _), k.off t (hn _)]
theorem eval_see {o : Oper} (h : ∀ t, t ∈ o.looksAt ops → a.tmps[t]? = b.tmps[t]?) : ∀ x ∈ o.op.operands, a.eval x = b.eval x := by
  intro x hx
  cases x with
  | tmp t =>
    have := h t (List.mem_append_left _ (List.mem_filterMap.2 ⟨.tmp t, by simpa using hx, rfl⟩))
    simp [Act.eval, Array.getD_eq_getD_getElem?, this]
  | const v => rfl
  | global g => rfl
  | func f => rfl
theorem wanted_see {o : Oper} (h : ∀ t, t ∈ o.looksAt ops → a.tmps[t]? = b.tmps[t]?) : Region.wanted o (yielded ops a.tmps) = Region.wanted o (yielded ops b.tmps) := by
  unfold Region.wanted
  cases hg : o.guard with
  | none => rfl
  | some p =>
    obtain ⟨j, want⟩ := p
    have : yielded ops a.tmps j = yielded ops b.tmps j := by
      unfold yielded
      cases hd : (ops[j]?).bind (·.dst) with
      | none => rfl
      | some t =>
        have := h t (by unfold Oper.looksAt; rw [hg]; simp [hd])
        simp [this]
    simp [this]
end

section
variable (P : Program) (ops : Array Oper) (C : World → Prop) (NQ : Nat → Bool) (R : Nat → Value → Prop) (G : (Nat → Bool) → (Nat → Value) → World → Prop)
/-- What an operation's slot holds. -/
def slotOf (o : Oper) (a : Act) : Value := match o.dst with | some d => a.tmps.getD d undef | none => undef
/-- What is owed at a loud operation: it may come up whenever those that it waits for have been carried out. -/
def Loud (i : Nat) (o : Oper) (b : Act) (u : Nat → Value) : Prop :=
  ∀ L w, L i = false → (∀ k, dep o k = true → L k = true) → Closed ops L → C w → G L u w →
    wpList P ops (fun e a' w' => e = .normal ∧ a'.defers = b.defers ∧ R i (slotOf o a') ∧ C w' ∧ G (upd L i) (updv u i (slotOf o a')) w') [o] b w
/-- The lexical walk: a quiet operation hands back one value in each world of D; a loud one has its ghost. -/
def Lx (D : World → Prop) (u : Nat → Value) (Fin : Act → Prop) : Nat → List Oper → Act → Prop
  | _, [], a => Fin a
  | i, o :: rest, a =>
    if NQ i then Region.wanted o (yielded ops a.tmps) = true ∧ Loud P ops C R G i o a u ∧ Lx D u Fin (i + 1) rest (a.put o.dst (u i))
    else if Region.wanted o (yielded ops a.tmps) then o.quiet P a D (Lx D u Fin (i + 1) rest)
    else Lx D u Fin (i + 1) rest (a.put o.dst undef)
def Node (D : World → Prop) (u vals : Nat → Value) (i : Nat) (o : Oper) (b : Act) : Prop :=
  if NQ i then Region.wanted o (yielded ops b.tmps) = true ∧ Loud P ops C R G i o b u ∧ vals i = u i
  else if Region.wanted o (yielded ops b.tmps) then ∀ w, D w → o.quietAt P b D w (vals i) else vals i = undef
end

section
variable {P : Program} {ops : Array Oper} {C : World → Prop} {NQ : Nat → Bool} {R : Nat → Value → Prop} {G : (Nat → Bool) → (Nat → Value) → World → Prop} {a0 : Act}
theorem Fm.congr {L L' : Nat → Bool} {val val' : Nat → Value} {a : Act} (h : Fm ops a0 L val a) (hl : ∀ j, j < ops.size → L' j = L j) (hv : ∀ j, j < ops.size → L j = true → val' j = val j) : Fm ops a0 L' val' a :=
  ⟨h.defers, h.size, fun j o t hj hlj hd => by
    have hlt := (Array.getElem?_eq_some_iff.1 hj).1
    rw [hl j hlt] at hlj
    rw [hv j hlt hlj]; exact h.on j o t hj hlj hd,
   fun t ht => h.off t fun j o hj hlj => ht j o hj (by rw [hl j (Array.getElem?_eq_some_iff.1 hj).1]; exact hlj)⟩
theorem lx_vals (g : GoodReg ops a0.tmps.size) {D : World → Prop} {u : Nat → Value} {Fin : Act → Prop} : ∀ (l : List Oper) (i : Nat) (a : Act) (vals : Nat → Value), (∀ j, l[j]? = ops[i + j]?) → Fm ops a0 (fun j => decide (j < i)) vals a → Lx P ops C NQ R G D u Fin i l a →
    ∃ vals', (∀ j, j < i → vals' j = vals j) ∧ (∀ (j : Nat) (o : Oper), i ≤ j → ops[j]? = some o → ∃ b, Fm ops a0 (fun k => decide (k < j)) vals' b ∧ Node P ops C NQ R G D u vals' j o b) ∧ ∃ af, Fm ops a0 (fun _ => true) vals' af ∧ Fin af
  | [], i, a, vals, hl, hf, hx => by
    have hi : ops.size ≤ i := by
      have := hl 0
      simp at this
      exact this
    exact ⟨vals, fun _ _ => rfl, fun j o hj ho => by have := (Array.getElem?_eq_some_iff.1 ho).1; omega, a, hf.congr (fun j hj => by simp; omega) (fun _ _ _ => rfl), hx⟩
  | o :: rest, i, a, vals, hl, hf, hx => by
    have hi : ops[i]? = some o := by have := hl 0; simpa using this.symm
    have hrest : ∀ j, rest[j]? = ops[i + 1 + j]? := fun j => by have := hl (j + 1); rw [Nat.add_assoc, Nat.add_comm 1 j]; simpa using this
    have go : ∀ v, Lx P ops C NQ R G D u Fin (i + 1) rest (a.put o.dst v) → (∀ vals', vals' i = v → Node P ops C NQ R G D u vals' i o a) →
        ∃ vals', (∀ j, j < i → vals' j = vals j) ∧ (∀ (j : Nat) (o : Oper), i ≤ j → ops[j]? = some o → ∃ b, Fm ops a0 (fun k => decide (k < j)) vals' b ∧ Node P ops C NQ R G D u vals' j o b) ∧ ∃ af, Fm ops a0 (fun _ => true) vals' af ∧ Fin af := by
      intro v hv hn
      have hf1 : Fm ops a0 (fun j => decide (j < i + 1)) (updv vals i v) (a.put o.dst v) :=
        (Fm.put g hf hi (by simp) (v := v) (val' := updv vals i v) (fun _ => by simp [updv]) (fun j hj _ => by simp [updv]; rintro rfl; simp at hj)).congr (fun j _ => by rw [Bool.eq_iff_iff]; simp [upd]; omega) (fun _ _ _ => rfl)
      obtain ⟨vals', h1, h2, h3⟩ := lx_vals g rest (i + 1) _ _ hrest hf1 hv
      have hag : ∀ j, j < i → vals' j = vals j := fun j hj => by rw [h1 j (by omega)]; simp [updv]; omega
      refine ⟨vals', hag, fun j q hj hq => ?_, h3⟩
      by_cases hji : j = i
      · subst hji
        rw [hi] at hq; cases hq
        exact ⟨a, hf.congr (fun _ _ => rfl) (fun k _ hk => hag k (by simpa using hk)), hn _ (by rw [h1 j (by omega)]; simp [updv])⟩
      · exact h2 j q (by omega) hq
    unfold Lx at hx
    by_cases hn : NQ i = true
    · rw [if_pos hn] at hx
      exact go _ hx.2.2 fun vals' hv => by unfold Node; rw [if_pos hn]; exact ⟨hx.1, hx.2.1, hv⟩
    · rw [if_neg hn] at hx
      by_cases hw : Region.wanted o (yielded ops a.tmps) = true
      · rw [if_pos hw] at hx
        obtain ⟨v, hm, hx⟩ := hx
        exact go v hx fun vals' hv => by unfold Node; rw [if_neg hn, if_pos hw, hv]; exact hm
      · rw [if_neg hw] at hx
        exact go undef hx fun vals' hv => by unfold Node; rw [if_neg hn, if_neg hw]; exact hv
theorem see_lex (g : GoodReg ops a0.tmps.size) {j : Nat} {o : Oper} (hj : ops[j]? = some o) {vals vals' : Nat → Value} {b b' : Act} (h : Fm ops a0 (fun k => decide (k < j)) vals b) (h' : Fm ops a0 (fun k => decide (k < j)) vals' b')
    (hag : ∀ k, k < j → dep o k = true → vals' k = vals k) : ∀ t, t ∈ o.looksAt ops → b.tmps[t]? = b'.tmps[t]? := by
  intro t ht
  by_cases hw : ∃ (k : Nat) (q : Oper), ops[k]? = some q ∧ q.dst = some t ∧ k < j
  · obtain ⟨k, q, hk, hq, hlt⟩ := hw
    rw [h.on k q t hk (by simpa using hlt) hq, h'.on k q t hk (by simpa using hlt) hq, hag k hlt ((g.ord j k o q t hj hk (by omega) hq ht).1 hlt)]
  · rw [h.off t fun k q hk hlk hq => hw ⟨k, q, hk, hq, by simpa using hlk⟩, h'.off t fun k q hk hlk hq => hw ⟨k, q, hk, hq, by simpa using hlk⟩]
theorem nodes_agree (g : GoodReg ops a0.tmps.size) {D D' : World → Prop} {L : Nat → Bool} {u u' vals vals' : Nat → Value} {w : World} (hw : D w) (hw' : D' w) (hc : Closed ops L) (hu : ∀ k, L k = true → u' k = u k)
    (h : ∀ (j : Nat) (o : Oper), ops[j]? = some o → ∃ b, Fm ops a0 (fun k => decide (k < j)) vals b ∧ Node P ops C NQ R G D u vals j o b)
    (h' : ∀ (j : Nat) (o : Oper), ops[j]? = some o → ∃ b, Fm ops a0 (fun k => decide (k < j)) vals' b ∧ Node P ops C NQ R G D' u' vals' j o b) : ∀ j, j < ops.size → L j = true → vals' j = vals j := by
  intro j
  induction j using Nat.strongRecOn with
  | _ j ih =>
    intro hlt hlj
    obtain ⟨o, hj⟩ : ∃ o, ops[j]? = some o := ⟨_, Array.getElem?_eq_getElem hlt⟩
    obtain ⟨b, hb, hn⟩ := h j o hj
    obtain ⟨b', hb', hn'⟩ := h' j o hj
    have see := see_lex g hj hb hb' fun k hk hd => ih k hk (by omega) (hc j o k hj hlj hd)
    have ev : execOp b.eval o = execOp b'.eval o := execOp_congr o (fun cs c => Region.noSelect_spec g.sel j o cs c hj) (eval_see see)
    have wt := wanted_see (o := o) see
    unfold Node at hn hn'
    by_cases hq : NQ j = true
    · rw [if_pos hq] at hn hn'
      rw [hn.2.2, hn'.2.2, hu j hlj]
    · rw [if_neg hq] at hn hn'
      rw [wt] at hn
      by_cases hwt : Region.wanted o (yielded ops b'.tmps) = true
      · rw [if_pos hwt] at hn hn'
        exact (quiet_unique (hn w hw) (hn' w hw') ev).symm
      · rw [if_neg hwt] at hn hn'
        rw [hn, hn']
theorem gives_of_wpList {o : Oper} {b : Act} {w : World} {S : Act → World → Prop} (hwt : Region.wanted o (yielded ops b.tmps) = true)
    (h : wpList P ops (fun e a' w' => e = .normal ∧ a'.defers = b.defers ∧ S a' w') [o] b w) : Gives P o b.eval w (fun v w' => S (b.put o.dst v) w') := by
  unfold wpList at h
  rw [if_pos hwt] at h
  rcases h with h | ⟨_, _, _, h⟩
  · unfold Oper.wp at h
    unfold Gives
    generalize (execOp b.eval o).run P w = r at *
    cases r with
    | ok x w' =>
      cases x <;> simp only [Oper.upon, wpList] at h ⊢
      case value v => exact h.2.2
      case skip => exact h.2.2
      case defer d =>
        have := h.2.1
        have hd : ({ b with defers := d :: b.defers }.put o.dst undef).defers = d :: b.defers := by cases o.dst <;> rfl
        rw [hd] at this
        exact absurd this (by simp)
      case enter f args =>
        refine Calls.mono h fun e w'' he => ?_
        cases e with
        | returned v => exact ⟨v, rfl, he.2.2⟩
        | panicked c => exact absurd he.1 (by simp)
        | outgrown => obtain ⟨_, _, he⟩ := he; exact absurd he.1 (by simp)
      case row row args => exact Rows.mono h fun v w'' hv => hv.2.2
    | halt x w' =>
      cases x <;> simp only [Oper.upon] at h ⊢
      exact absurd h.1 (by simp)
  · exact absurd h.1 (by simp)

/-- How one operation is carried out: as the plain walk has it, or as within a round. -/
structure Exec (P : Program) (ops : Array Oper) (X : Nat → (Act → World → Prop) → Act → World → Prop) : Prop where
  run : ∀ {i : Nat} {o : Oper} {K : Act → World → Prop} {a : Act} {w : World}, ops[i]? = some o → Region.wanted o (yielded ops a.tmps) = true → Gives P o a.eval w (fun v w' => K (a.put o.dst v) w') → X i K a w
  skip : ∀ {i : Nat} {o : Oper} {K : Act → World → Prop} {a : Act} {w : World}, ops[i]? = some o → Region.wanted o (yielded ops a.tmps) = false → K (a.put o.dst undef) w → X i K a w

def on (listed : Array Bool) : Nat → Bool := fun j => listed.getD j false
theorem on_set {listed : Array Bool} {i : Nat} (h : i < listed.size) (j : Nat) : on (listed.setIfInBounds i true) j = upd (on listed) i j := by
  simp only [on, upd, Array.getD_eq_getD_getElem?, Array.getElem?_setIfInBounds]
  by_cases hj : i = j
  · subst hj; simp [h]
  · simp [hj, Ne.symm hj]
/-- It stays true in each later world. -/
def Stays (T : World → Prop) : Prop := ∀ w w', T w → Ext w w' → T w'
def Inv (P : Program) (ops : Array Oper) (C : World → Prop) (NQ : Nat → Bool) (R : Nat → Value → Prop) (G : (Nat → Bool) → (Nat → Value) → World → Prop) (a0 : Act) (Fin : (Nat → Value) → Act → Prop) (listed : Array Bool) (a : Act) (w : World) : Prop :=
  listed.size = ops.size ∧ Closed ops (on listed) ∧ C w ∧ ∃ u vals T, Stays T ∧ T w ∧ (∀ k, NQ k = true → R k (u k)) ∧
    (∀ (j : Nat) (o : Oper), ops[j]? = some o → ∃ b, Fm ops a0 (fun k => decide (k < j)) vals b ∧ Node P ops C NQ R G (fun w => C w ∧ T w) u vals j o b) ∧ (∃ af, Fm ops a0 (fun _ => true) vals af ∧ Fin u af) ∧ Fm ops a0 (on listed) vals a ∧ G (on listed) u w
theorem inv_step {X : Nat → (Act → World → Prop) → Act → World → Prop} (hX : Exec P ops X) (g : GoodReg ops a0.tmps.size) {Fin : (Nat → Value) → Act → Prop} (hG : ∀ L L' u w, (∀ k, NQ k = true → L' k = L k) → G L u w → G L' u w) (hGs : ∀ L u, Stays (G L u))
    (hLx : ∀ T, Stays T → (∃ w, C w ∧ T w) → ∀ u, (∀ k, NQ k = true → R k (u k)) → Lx P ops C NQ R G (fun w => C w ∧ T w) u (Fin u) 0 ops.toList a0) {listed : Array Bool} {a : Act} {w : World} {i : Nat} (hi : i ∈ Region.ready .any ops listed)
    (h : Inv P ops C NQ R G a0 Fin listed a w) {K : Act → World → Prop} (hK : ∀ a' w', Inv P ops C NQ R G a0 Fin (listed.setIfInBounds i true) a' w' → K a' w') : X i K a w := by
  obtain ⟨hsz, hc, hCw, u, vals0, T0, _, hT0, hR, hN0, _, hf0, hg⟩ := h
  -- the values anew, over the class of worlds in which G holds as it does now
  have lex := fun T (hT : Stays T) (hE : ∃ w, C w ∧ T w) u (hR : ∀ k, NQ k = true → R k (u k)) => lx_vals g ops.toList 0 a0 (fun _ => undef) (by simp) ⟨rfl, rfl, (fun _ _ _ _ h _ => by simp at h), fun _ _ => rfl⟩ (hLx T hT hE u hR)
  obtain ⟨vals, _, hN1, hF⟩ := lex (G (on listed) u) (hGs _ _) ⟨w, hCw, hg⟩ u hR
  have hN : ∀ (j : Nat) (o : Oper), ops[j]? = some o → ∃ b, Fm ops a0 (fun k => decide (k < j)) vals b ∧ Node P ops C NQ R G (fun w => C w ∧ G (on listed) u w) u vals j o b := fun j o hj => hN1 j o (Nat.zero_le _) hj
  have hag0 := nodes_agree g (w := w) ⟨hCw, hT0⟩ ⟨hCw, hg⟩ hc (fun _ _ => rfl) hN0 hN
  have hf : Fm ops a0 (on listed) vals a := hf0.congr (fun _ _ => rfl) (fun j hj hl => hag0 j hj hl)
  obtain ⟨hun, o, ho, hall⟩ := mem_ready.1 hi
  have hlt : i < ops.size := (Array.getElem?_eq_some_iff.1 ho).1
  have hl : on listed i = false := getD_both hun
  have hr : ∀ k, dep o k = true → on listed k = true := fun k hk => by
    obtain ⟨e, he, hb⟩ := Array.any_eq_true'.1 hk
    simp only [Bool.and_eq_true, beq_iff_eq] at hb
    rw [← hb.2]; exact hall e he hb.1
  have hset := on_set (listed := listed) (i := i) (by rw [hsz]; exact hlt)
  have hc' : Closed ops (on (listed.setIfInBounds i true)) := fun j q k hj hlj hd => by
    rw [hset] at hlj ⊢
    simp only [upd, Bool.or_eq_true, beq_iff_eq] at hlj ⊢
    rcases hlj with rfl | hlj
    · rw [ho] at hj; cases hj; exact .inr (hr k hd)
    · exact .inr (hc j q k hj hlj hd)
  obtain ⟨b, hb, hn⟩ := hN i o ho
  have see := Fm.see g ho hf hb hl hc hr (fun _ _ _ => rfl)
  have ev : execOp a.eval o = execOp b.eval o := execOp_congr o (fun cs c => Region.noSelect_spec g.sel i o cs c ho) (eval_see see)
  have wt := wanted_see (o := o) see
  have gv : ∀ {S : Value → World → Prop}, Gives P o b.eval w S → Gives P o a.eval w S := fun hs => by unfold Gives at *; rw [ev]; exact hs
  unfold Node at hn
  by_cases hq : NQ i = true
  · rw [if_pos hq] at hn
    obtain ⟨hw, hloud, hvi⟩ := hn
    have h1 := hloud (on listed) w hl hr hc hCw hg
    have h2 := gives_of_wpList (S := fun a' w' => R i (slotOf o a') ∧ C w' ∧ G (upd (on listed) i) (updv u i (slotOf o a')) w') hw h1
    refine hX.run ho (wt.trans hw) ((gv h2).mono fun v w' ⟨r1, r2, r3⟩ => hK _ _ ?_)
    have hR' : ∀ k, NQ k = true → R k (updv u i (slotOf o (b.put o.dst v)) k) := fun k hk => by
      unfold updv; split
      · rename_i e; subst e; exact r1
      · exact hR k hk
    -- the values at the new ghosts: in the class of all worlds they agree on what has been carried out
    obtain ⟨vals', _, hN', hF'⟩ := lex (fun _ => True) (fun _ _ _ _ => trivial) ⟨w, hCw, trivial⟩ _ hR'
    have hM : ∀ (j : Nat) (q : Oper), ops[j]? = some q → ∃ b', Fm ops a0 (fun k => decide (k < j)) vals' b' ∧ Node P ops C NQ R G (fun w => C w ∧ True) (updv u i (slotOf o (b.put o.dst v))) vals' j q b' := fun j q hj => hN' j q (Nat.zero_le _) hj
    have hag := nodes_agree g (w := w) (D := fun w => C w ∧ G (on listed) u w) (D' := fun w => C w ∧ True) ⟨hCw, hg⟩ ⟨hCw, trivial⟩ hc (fun k hk => by unfold updv; rw [if_neg (by rintro rfl; rw [hl] at hk; cases hk)]) hN hM
    have hvi' : vals' i = slotOf o (b.put o.dst v) := by
      obtain ⟨b', _, hn'⟩ := hM i o ho
      unfold Node at hn'; rw [if_pos hq] at hn'
      rw [hn'.2.2]; simp [updv]
    refine ⟨by simp [hsz], hc', r2, _, vals', (fun _ => True), (fun _ _ _ _ => trivial), trivial, hR', hM, hF', (Fm.put g hf ho hl (v := v) (val' := vals') (fun hd => ?_) (fun j hj hlt => hag j hlt hj)).congr (fun j _ => hset j) (fun _ _ _ => rfl), hG _ _ _ _ (fun k _ => hset k) r3⟩
    rw [hvi']
    unfold slotOf
    cases hdd : o.dst with
    | none => exact absurd hdd hd
    | some d =>
      have := Act.put_tmps b d v d
      rw [if_pos ⟨rfl, by rw [hb.size]; exact g.dst i o d ho hdd⟩] at this
      simp [Array.getD_eq_getD_getElem?, this]
  · rw [if_neg hq] at hn
    have next : ∀ v w', vals i = v → C w' → G (on listed) u w' → K (a.put o.dst v) w' := fun v w' hv hc1 hg1 => hK _ _ ⟨by simp [hsz], hc', hc1, u, vals, G (on listed) u, hGs _ _, hg1, hR, hN, hF,
      (Fm.put g hf ho hl (v := v) (val' := vals) (fun _ => hv) (fun _ _ _ => rfl)).congr (fun j _ => hset j) (fun _ _ _ => rfl), hG _ _ _ _ (fun k hk => by rw [hset]; simp [upd]; rintro rfl; exact absurd hk hq) hg1⟩
    rw [← wt] at hn
    by_cases hw : Region.wanted o (yielded ops a.tmps) = true
    · rw [if_pos hw] at hn
      exact hX.run ho hw (gv (quiet_gives (hn w ⟨hCw, hg⟩) ⟨hCw, hg⟩ fun w' hw' => next _ _ rfl hw'.1 hw'.2))
    · rw [if_neg hw] at hn
      exact hX.skip ho (by simpa using hw) (next _ _ hn hCw hg)
/-- How many operations are still to come. -/
def left (ops : Array Oper) (listed : Array Bool) : Nat := ((List.range ops.size).filter fun j => !on listed j).length
theorem filter_lt {l : List Nat} {p q : Nat → Bool} (h : ∀ x, p x = true → q x = true) {y : Nat} (hy : y ∈ l) (h1 : q y = true) (h2 : p y = false) : (l.filter p).length < (l.filter q).length := by
  induction l with
  | nil => cases hy
  | cons x l ih =>
    have hle : ∀ l : List Nat, (l.filter p).length ≤ (l.filter q).length := fun l => by
      induction l with
      | nil => simp
      | cons z l ihl =>
        by_cases hz : p z = true
        · simp [hz, h z hz, ihl]
        · by_cases hz' : q z = true
          · simp [hz, hz']; omega
          · simp [hz, hz', ihl]
    by_cases e : y = x
    · subst e
      simp only [List.filter_cons, h1, h2, if_true, List.length_cons, Bool.false_eq_true, if_false]
      have := hle l; omega
    · have hy' : y ∈ l := by rcases List.mem_cons.1 hy with h | h; exact absurd h e; exact h
      have := ih hy'
      by_cases hz : p x = true
      · simp [hz, h x hz, this]
      · by_cases hz' : q x = true
        · simp [hz, hz']; omega
        · simp [hz, hz', this]
theorem all_on (g : GoodReg ops a0.tmps.size) {listed : Array Bool} (hs : listed.size = ops.size) (h : Region.ready .any ops listed = []) : ∀ j, j < ops.size → on listed j = true := by
  intro j
  induction j using Nat.strongRecOn with
  | _ j ih =>
    intro hj
    cases hh : on listed j with
    | true => rfl
    | false =>
      have : j ∈ Region.ready .any ops listed := mem_ready.2 ⟨getD_in (by rw [hs]; exact hj) hh, _, Array.getElem?_eq_getElem hj, fun e he hb => by
        have hlt := g.back j _ (Array.getElem?_eq_getElem hj) e he hb
        exact ih _ hlt (by omega)⟩
      rw [h] at this; cases this
theorem inv_all {X : Nat → (Act → World → Prop) → Act → World → Prop} (hX : Exec P ops X) (g : GoodReg ops a0.tmps.size) {Fin : (Nat → Value) → Act → Prop} (hG : ∀ L L' u w, (∀ k, NQ k = true → L' k = L k) → G L u w → G L' u w) (hGs : ∀ L u, Stays (G L u))
    (hNQ : ∀ k, NQ k = true → k < ops.size) (hLx : ∀ T, Stays T → (∃ w, C w ∧ T w) → ∀ u, (∀ k, NQ k = true → R k (u k)) → Lx P ops C NQ R G (fun w => C w ∧ T w) u (Fin u) 0 ops.toList a0) {E : Act → World → Prop}
    (hE : ∀ u a w, (∀ k, NQ k = true → R k (u k)) → C w → G (fun _ => true) u w → Fin u a → E a w)
    {A : Nat → Array Bool → Act → World → Prop} (hA0 : ∀ listed a w, Region.ready .any ops listed = [] → E a w → A 0 listed a w)
    (hA1 : ∀ f listed a w, (Region.ready .any ops listed = [] → E a w) → (∀ i ∈ Region.ready .any ops listed, X i (A f (listed.setIfInBounds i true)) a w) → A (f + 1) listed a w) :
    ∀ (f : Nat) (listed : Array Bool) (a : Act) (w : World), left ops listed ≤ f → Inv P ops C NQ R G a0 Fin listed a w → A f listed a w := by
  have hend : ∀ {listed : Array Bool} {a : Act} {w : World}, Inv P ops C NQ R G a0 Fin listed a w → Region.ready .any ops listed = [] → E a w := by
    rintro listed a w ⟨hsz, hc, hCw, u, vals, T, _, _, hR, hN, ⟨af, haf, hfin⟩, hF, hg⟩ hr
    have hall := all_on g hsz hr
    have ha : a = af := (hF.congr (fun j hj => (hall j hj).symm) (fun _ _ _ => rfl)).unique haf
    subst ha
    exact hE u _ _ hR hCw (hG _ _ _ _ (fun k hk => (hall k (hNQ k hk)).symm) hg) hfin
  intro f
  induction f with
  | zero =>
    intro listed a w hf h
    have hr : Region.ready .any ops listed = [] := by
      cases hr : Region.ready .any ops listed with
      | nil => rfl
      | cons i l =>
        have hi : i ∈ Region.ready .any ops listed := by rw [hr]; exact List.mem_cons_self
        obtain ⟨hun, o, ho, _⟩ := mem_ready.1 hi
        have : i ∈ (List.range ops.size).filter fun j => !on listed j := List.mem_filter.2 ⟨List.mem_range.2 (Array.getElem?_eq_some_iff.1 ho).1, by simpa [on] using getD_both hun⟩
        have hp := List.length_pos_of_mem this
        unfold left at hf; omega
    exact hA0 _ _ _ hr (hend h hr)
  | succ f ih =>
    intro listed a w hf h
    refine hA1 _ _ _ _ (hend h) fun i hi => inv_step hX g hG hGs hLx hi h fun a' w' h' => ih _ _ _ ?_ h'
    obtain ⟨hun, o, ho, _⟩ := mem_ready.1 hi
    have hlt : i < ops.size := (Array.getElem?_eq_some_iff.1 ho).1
    have hset := on_set (listed := listed) (i := i) (by rw [h.1]; exact hlt)
    have : left ops (listed.setIfInBounds i true) < left ops listed := by
      unfold left
      refine filter_lt (fun x hx => ?_) (List.mem_range.2 hlt) (y := i) ?_ ?_
      · rw [hset] at hx; simp [upd] at hx; simp [hx.2]
      · simpa [on] using getD_both hun
      · rw [hset]; simp [upd]
    omega
theorem exec_plain {Q : Exit → Act → World → Prop} : Exec P ops (wpOp P ops Q) := by
  refine ⟨fun {i o K a w} ho hw h => ?_, fun {i o K a w} ho hw h => ?_⟩
  · unfold wpOp
    simp only [ho]
    rw [if_pos hw]
    left
    unfold Gives at h
    unfold Oper.wp
    generalize (execOp a.eval o).run P w = r at *
    cases r with
    | ok x w' =>
      cases x <;> simp only [Oper.upon] at h ⊢ <;> first | exact h.elim | skip
      case value v => exact h
      case skip => exact h
      case enter f args => exact h.mono fun e w'' ⟨v, he, hk⟩ => by subst he; exact hk
      case row row args => exact h
    | halt x w' => exact h.elim
  · unfold wpOp
    simp only [ho]
    rw [if_neg (by rw [hw]; exact Bool.false_ne_true)]
    exact h
end
theorem inv_start {P : Program} {a0 : Act} {w : World} {l : List Oper} {C : World → Prop} {NQ : Nat → Bool} {R : Nat → Value → Prop} {G : (Nat → Bool) → (Nat → Value) → World → Prop} {Fin : (Nat → Value) → Act → Prop} (g : GoodReg l.toArray a0.tmps.size)
    (hG : ∀ L L' u w, (∀ k, NQ k = true → L' k = L k) → G L u w → G L' u w) (hC : C w.drew) (u0 : Nat → Value) (hu0 : ∀ k, NQ k = true → R k (u0 k)) (hG0 : G (fun _ => false) u0 w.drew)
    (h : Lx P l.toArray C NQ R G (fun w => C w ∧ True) u0 (Fin u0) 0 l a0) : Inv P l.toArray C NQ R G a0 Fin (Array.replicate l.toArray.size false) a0 w.drew := by
  have hoff : ∀ j, on (Array.replicate l.toArray.size false) j = false := fun j => getD_replicate_false _ _
  obtain ⟨vals, _, hN, hF⟩ := lx_vals g l.toArray.toList 0 a0 (fun _ => undef) (by simp) ⟨rfl, rfl, (fun _ _ _ _ h _ => by simp at h), fun _ _ => rfl⟩ h
  have hcl : Closed l.toArray (on (Array.replicate l.toArray.size false)) := fun i o k _ hi _ => by rw [hoff] at hi; cases hi
  have hfm : Fm l.toArray a0 (on (Array.replicate l.toArray.size false)) vals a0 := ⟨rfl, rfl, (fun j o t _ hj _ => by rw [hoff] at hj; cases hj), fun _ _ => rfl⟩
  exact ⟨by simp, hcl, hC, u0, vals, (fun _ => True), (fun _ _ _ _ => trivial), trivial, hu0, fun j o hj => hN j o (Nat.zero_le _) hj, hF, hfm, hG _ _ _ _ (fun k _ => hoff k) hG0⟩
/-- **A region that draws its order**: C: a class of worlds that nothing leaves · NQ: its loud operations, by number · R: what is known of what each hands back · G: what is known of the world, by the loud operations that have been carried out, and what they have handed back · one lexical walk. -/
theorem wp_region_ghost {P : Program} {id : Nat} {Q : Exit → Act → World → Prop} {a0 : Act} {w : World} {l : List Oper} (hm : P.follows .mixedOrders = true)
    (C : World → Prop) (NQ : Nat → Bool) (R : Nat → Value → Prop) (G : (Nat → Bool) → (Nat → Value) → World → Prop)
    (hg : goodReg l.toArray a0.tmps.size = true) (hNQ : ∀ k, NQ k = true → k < l.length) (hG : ∀ L L' u w, (∀ k, NQ k = true → L' k = L k) → G L u w → G L' u w) (hGs : ∀ L u, Stays (G L u))
    (hC : C w.drew) (u0 : Nat → Value) (hu0 : ∀ k, NQ k = true → R k (u0 k)) (hG0 : G (fun _ => false) u0 w.drew)
    (h : ∀ T, Stays T → (∃ w, C w ∧ T w) → ∀ u, (∀ k, NQ k = true → R k (u k)) → Lx P l.toArray C NQ R G (fun w => C w ∧ T w) u (fun a => ∀ w', C w' → G (fun _ => true) u w' → Q .normal a w') 0 l a0) : (Code.region id l.toArray true).wp P Q a0 w := by
  have g := goodReg_spec hg
  refine wp_region_any hm ?_
  refine inv_all (A := wpAny P .any l.toArray Q) (E := Q .normal) exec_plain g hG hGs (by simpa using hNQ) (Fin := fun u a => ∀ w', C w' → G (fun _ => true) u w' → Q .normal a w') h
    (fun u a w' hR hc hg hf => hf w' hc hg) (fun _ _ _ h1 h2 => ⟨h1, h2⟩) (fun _ _ _ _ h1 h2 => ⟨h1, h2⟩) _ _ _ _ ?_ (inv_start g hG hC u0 hu0 hG0 (h (fun _ => True) (fun _ _ _ _ => trivial) ⟨_, hC, trivial⟩ u0 hu0))
  unfold left; exact Nat.le_trans (List.length_filter_le _ _) (by simp)

/-! ### The walk's own words -/
section
variable {P : Program} {ops : Array Oper} {C D : World → Prop} {NQ : Nat → Bool} {R : Nat → Value → Prop} {G : (Nat → Bool) → (Nat → Value) → World → Prop} {u : Nat → Value} {Fin : Act → Prop} {i : Nat} {o : Oper} {rest : List Oper} {a : Act}
theorem lx_nil (h : Fin a) : Lx P ops C NQ R G D u Fin i [] a := h
/-- A stretch of quiet operations: by the library's own quiet walk. -/
theorem lx_quiet : ∀ (seg : List Oper) {i : Nat} {rest : List Oper} {a : Act}, (∀ k, k < seg.length → NQ (i + k) = false) → wpQuiet P ops D (Lx P ops C NQ R G D u Fin (i + seg.length) rest) seg a → Lx P ops C NQ R G D u Fin i (seg ++ rest) a
  | [], i, rest, a, _, h => h
  | o :: seg, i, rest, a, hn, h => by
    have h0 : NQ i = false := hn 0 (by simp)
    have ih : ∀ a, wpQuiet P ops D (Lx P ops C NQ R G D u Fin (i + (o :: seg).length) rest) seg a → Lx P ops C NQ R G D u Fin (i + 1) (seg ++ rest) a := fun a h =>
      lx_quiet seg (fun k hk => by have := hn (k + 1) (by simpa using hk); rwa [Nat.add_assoc, Nat.add_comm 1 k]) (by
        have e : i + (o :: seg).length = i + 1 + seg.length := by simp; omega
        rw [e] at h; exact h)
    show Lx P ops C NQ R G D u Fin i (o :: (seg ++ rest)) a
    unfold Lx
    rw [if_neg (by rw [h0]; exact Bool.false_ne_true)]
    unfold wpQuiet at h
    split
    · rename_i hw
      rw [if_pos hw] at h
      exact Oper.quiet_mono ih h
    · rename_i hw
      rw [if_neg hw] at h
      exact ih _ h
theorem lx_loud (hn : NQ i = true) (hw : Region.wanted o (yielded ops a.tmps) = true) (hl : Loud P ops C R G i o a u) (h : ∀ K : Act → Prop, (∀ a, Lx P ops C NQ R G D u Fin (i + 1) rest a → K a) → K (a.put o.dst (u i))) :
    Lx P ops C NQ R G D u Fin i (o :: rest) a := by
  unfold Lx
  rw [if_pos hn]
  exact ⟨hw, hl, h _ fun _ h => h⟩
end
/-- A later world in which, of what was there, only cells of X may have turned. -/
structure Lat (X : Nat → Nat → Prop) (w : World) where
  world : World
  os : world.os = w.os
  tape : world.tape = w.tape
  output : world.output = w.output
  size : w.heap.size ≤ world.heap.size
  cell : ∀ {b o : Nat}, b < w.heap.size → ¬ X b o → world.cell? ⟨b, o, none⟩ = w.cell? ⟨b, o, none⟩
  frozen : ∀ {b o : Nat}, b < w.heap.size → ¬ X b o → world.frozen? ⟨b, o, none⟩ = w.frozen? ⟨b, o, none⟩
  block : ∀ {b : Nat}, b < w.heap.size → (∀ o, ¬ X b o) → world.heap[b]? = w.heap[b]?
def Lat.of_ext (X : Nat → Nat → Prop) {w w' : World} (h : Ext w w') : Lat X w :=
  ⟨w', Below.os h, Below.tape h, Below.output h, Below.size h, fun hb _ => Below.cell (p := ⟨_, _, none⟩) h hb, fun hb _ => Below.frozen (p := ⟨_, _, none⟩) h hb, fun hb _ => Below.block h _ hb⟩
instance (X : Nat → Nat → Prop) (w : World) : Nonempty (Lat X w) := ⟨Lat.of_ext X (Ext.refl w)⟩
def Lat.ext {X : Nat → Nat → Prop} {w w' : World} (x : Lat X w) (h : Ext x.world w') : Lat X w :=
  ⟨w', (Below.os h).trans x.os, (Below.tape h).trans x.tape, (Below.output h).trans x.output, Nat.le_trans x.size (Below.size h), fun hb hx => (Below.cell (p := ⟨_, _, none⟩) h (Nat.lt_of_lt_of_le hb x.size)).trans (x.cell hb hx),
    fun hb hx => (Below.frozen (p := ⟨_, _, none⟩) h (Nat.lt_of_lt_of_le hb x.size)).trans (x.frozen hb hx), fun hb hx => (Below.block h _ (Nat.lt_of_lt_of_le hb x.size)).trans (x.block hb hx)⟩
theorem cell_set_other {w : World} {b o b' o' : Nat} (h : ¬ (b' = b ∧ o' = o)) (v : Value) : (w.setCell ⟨b, o, none⟩ v).cell? ⟨b', o', none⟩ = w.cell? ⟨b', o', none⟩ := by
  by_cases hb : b' = b
  · subst hb
    have ho : o' ≠ o := fun e => h ⟨rfl, e⟩
    unfold World.cell? World.setCell
    simp only [Array.getElem?_modify]
    cases w.heap[b']? with
    | none => rfl
    | some x => cases x <;> simp [Ne.symm ho]
  · exact World.cell?_of_block (w := w) (Below.heap_setCell w _ v b' hb)
theorem frozen_set {w : World} {b o b' o' : Nat} (v : Value) : (w.setCell ⟨b, o, none⟩ v).frozen? ⟨b', o', none⟩ = w.frozen? ⟨b', o', none⟩ := World.frozen?_setCell ..
def Lat.setCell {X : Nat → Nat → Prop} {w : World} (x : Lat X w) {b o : Nat} (h : w.heap.size ≤ b ∨ X b o) (v : Value) : Lat X w :=
  ⟨x.world.setCell ⟨b, o, none⟩ v, x.os, x.tape, x.output, Nat.le_trans x.size (by simp [World.setCell]),
    fun {b' o'} hb hx => (cell_set_other (by rintro ⟨rfl, rfl⟩; rcases h with h | h; omega; exact hx h) v).trans (x.cell hb hx), fun hb hx => (frozen_set v).trans (x.frozen hb hx),
    fun {b'} hb hx => (Below.heap_setCell _ _ v b' (by rintro rfl; rcases h with h | h; exact absurd hb (by simpa using h); exact hx _ h)).trans (x.block hb hx)⟩
/-- Blocks of S alone turn, and new ones come. -/
def Lat.chgd {X : Nat → Nat → Prop} {w w' : World} {S : Nat → Prop} (x : Lat X w) (h : Chg S x.world w') (hS : ∀ b, S b → w.heap.size ≤ b ∨ ∀ o, X b o) : Lat X w :=
  have key : ∀ {b : Nat}, b < w.heap.size → (¬ ∀ o, X b o) → w'.heap[b]? = x.world.heap[b]? := fun {b} hb hx => h.block b (Nat.lt_of_lt_of_le hb x.size) fun hs => by rcases hS b hs with h' | h'; omega; exact hx h'
  ⟨w', h.os.trans x.os, h.tape.trans x.tape, h.output.trans x.output, Nat.le_trans x.size h.size,
    fun {b o} hb hx => (World.cell?_of_block (a := ⟨b, o, none⟩) (key hb fun h => hx (h o))).trans (x.cell hb hx),
    fun {b o} hb hx => (World.frozen?_of_block (a := ⟨b, o, none⟩) (key hb fun h => hx (h o))).trans (x.frozen hb hx),
    fun {b} hb hx => (key hb fun h => hx 0 (h 0)).trans (x.block hb hx)⟩
theorem Lat.chg {X : Nat → Nat → Prop} {w : World} (x : Lat X w) : Chg (fun b => ∃ o, X b o) w x.world :=
  ⟨x.os, x.tape, x.output, x.size, fun _ hk hs => x.block hk fun o ho => hs ⟨o, ho⟩⟩
/-- A later world in a class. -/
structure LatT (X : Nat → Nat → Prop) (w : World) (T : World → Prop) extends Lat X w where
  stay : T world
theorem Calls.lat {P : Program} {X : Nat → Nat → Prop} {w : World} {T : World → Prop} (hT : Stays T) {x : LatT X w T} {f : FuncId} {args : Array Value} {v : Value} (h : Calls P f args x.toLat.world fun e w' => e = .returned v ∧ Ext x.toLat.world w') :
    Calls P f args x.toLat.world fun e w'' => e = .returned v ∧ ∃ y : LatT X w T, w'' = y.toLat.world :=
  h.mono fun _ _ ⟨he, hx⟩ => ⟨he, ⟨x.toLat.ext hx, hT _ _ x.stay hx⟩, rfl⟩
theorem Lat.refl (X : Nat → Nat → Prop) (w : World) : ∃ x : Lat X w, w = x.world := ⟨Lat.of_ext X (Ext.refl w), rfl⟩
/-- A region that draws its order and writes cells of X alone, and new ones. -/
theorem wp_region_lat {P : Program} {id : Nat} {Q : Exit → Act → World → Prop} {a0 : Act} {w : World} {l : List Oper} (hm : P.follows .mixedOrders = true)
    (X : Nat → Nat → Prop) (NQ : Nat → Bool) (R : Nat → Value → Prop) (G : (Nat → Bool) → (Nat → Value) → World → Prop)
    (hg : goodReg l.toArray a0.tmps.size = true) (hNQ : ∀ k, NQ k = true → k < l.length) (hG : ∀ L L' u w, (∀ k, NQ k = true → L' k = L k) → G L u w → G L' u w) (hGs : ∀ L u, Stays (G L u))
    (u0 : Nat → Value) (hu0 : ∀ k, NQ k = true → R k (u0 k)) (hG0 : G (fun _ => false) u0 w.drew)
    (h : ∀ T, Stays T → Nonempty (LatT X w T) → ∀ u, (∀ k, NQ k = true → R k (u k)) → Lx P l.toArray (fun w' => ∃ x : Lat X w, w' = x.world) NQ R G (fun w' => ∃ x : LatT X w T, w' = x.toLat.world) u (fun a => ∀ x : Lat X w, G (fun _ => true) u x.world → Q .normal a x.world) 0 l a0) : (Code.region id l.toArray true).wp P Q a0 w := by
  refine wp_region_ghost hm (fun w' => ∃ x : Lat X w, w' = x.world) NQ R G hg hNQ hG hGs ⟨Lat.of_ext X (Ext.refl w).drew, rfl⟩ u0 hu0 hG0 fun T hT hE u hu => ?_
  have e : (fun w' => (∃ x : Lat X w, w' = x.world) ∧ T w') = fun w' => ∃ x : LatT X w T, w' = x.toLat.world := funext fun w' => propext ⟨fun ⟨⟨x, hx⟩, ht⟩ => ⟨⟨x, hx ▸ ht⟩, hx⟩, fun ⟨x, hx⟩ => ⟨⟨x.toLat, hx⟩, hx ▸ x.stay⟩⟩
  rw [e]
  have e2 : (fun a => ∀ w', (∃ x : Lat X w, w' = x.world) → G (fun _ => true) u w' → Q .normal a w') = fun a => ∀ x : Lat X w, G (fun _ => true) u x.world → Q .normal a x.world :=
    funext fun a => propext ⟨fun h x hx => h _ ⟨x, rfl⟩ hx, fun h w' ⟨x, hx⟩ hg => by subst hx; exact h x hg⟩
  rw [e2]
  exact h T hT (let ⟨w', ⟨x, hx⟩, ht⟩ := hE; ⟨⟨x, hx ▸ ht⟩⟩) u hu
/-- The next n operations are quiet. -/
theorem lx_next {P : Program} {ops : Array Oper} {C D : World → Prop} {NQ : Nat → Bool} {R : Nat → Value → Prop} {G : (Nat → Bool) → (Nat → Value) → World → Prop} {u : Nat → Value} {Fin : Act → Prop} {i : Nat} {l : List Oper} {a : Act}
    (n : Nat) (hn : ((List.range n).all fun k => !NQ (i + k)) = true) (hl : n ≤ l.length) (h : wpQuiet P ops D (Lx P ops C NQ R G D u Fin (i + n) (l.drop n)) (l.take n) a) : Lx P ops C NQ R G D u Fin i l a := by
  have := lx_quiet (l.take n) (i := i) (rest := l.drop n) (a := a) (P := P) (ops := ops) (C := C) (D := D) (NQ := NQ) (R := R) (G := G) (u := u) (Fin := Fin) (fun k hk => by
    rw [List.length_take] at hk
    simpa using List.all_eq_true.1 hn k (List.mem_range.2 (by omega))) (by rw [List.length_take, Nat.min_eq_left hl]; exact h)
  rwa [List.take_append_drop] at this
/-- Whether operation j waits for operation i, step by step. -/
def reach (ops : Array Oper) (i : Nat) : Nat → Nat → Bool
  | 0, j => j == i
  | f + 1, j => j == i || match ops[j]? with
    | some o => o.after.any fun e => Region.binds .any e && decide (i ≤ e.on) && reach ops i f e.on
    | none => false
theorem Closed.off {ops : Array Oper} {L : Nat → Bool} (hc : Closed ops L) {i : Nat} (hi : L i = false) : ∀ (f j : Nat), reach ops i f j = true → L j = false
  | 0, j, h => by
    have : j = i := by simpa [reach] using h
    rw [this]; exact hi
  | f + 1, j, h => by
    unfold reach at h
    rcases Bool.or_eq_true _ _ |>.mp h with h | h
    · rw [show j = i by simpa using h]; exact hi
    · cases hj : L j with
      | false => rfl
      | true =>
        cases ho : ops[j]? with
        | none => rw [ho] at h; cases h
        | some o =>
          rw [ho] at h
          obtain ⟨e, he, hb⟩ := Array.any_eq_true'.1 h
          simp only [Bool.and_eq_true] at hb
          have := hc j o e.on ho hj (Array.any_eq_true'.2 ⟨e, he, by simp [hb.1.1]⟩)
          rw [Closed.off hc hi f e.on hb.2] at this
          cases this
end Go.Proofs.Ytpifdeglhalefaa
namespace Go.Proofs.Ytpifdeglhalefaa
open Go.RowKit Go.BigFrame
/-- What is known of some blocks. -/
structure Res where
  fp : Nat → Prop
  A : World → Prop
  stable : ∀ w w', (∀ k, fp k → w'.heap[k]? = w.heap[k]?) → A w → A w'
def Res.none : Res := ⟨fun _ => False, fun _ => True, fun _ _ _ h => h⟩
def Res.blk (b : Nat) (cs : Array Value) : Res := ⟨fun k => k = b, fun w => Blk w b cs, fun _ _ h ⟨t, hb⟩ => ⟨t, by rw [h b rfl]; exact hb⟩⟩
def Res.own (base : Nat) (e : TypeId) (size : Nat) (v : Value) (n : Nat) (xs : List Value) : Res :=
  ⟨fun k => v.ownBlock = some k, fun w => w.ownsRow base e size v n xs, fun w w' h hw => by
    obtain ⟨h1, h2 | ⟨g, cap, cur, e1, h2, h3, h4⟩⟩ := hw
    · exact ⟨h1, .inl h2⟩
    · exact ⟨h1, .inr ⟨g, cap, cur, e1, h2, by rw [h g (by rw [e1]; rfl)]; exact h3, h4⟩⟩⟩
/-- Each of these is so, from lo on, and no two have a block in common. -/
structure Frm (lo : Nat) (rs : List Res) (w : World) : Prop where
  each : ∀ (i : Nat) (r : Res), rs[i]? = some r → r.A w ∧ ∀ k, r.fp k → lo ≤ k ∧ k < w.heap.size
  parts : ∀ (i j : Nat) (r s : Res), rs[i]? = some r → rs[j]? = some s → i ≠ j → ∀ k, r.fp k → ¬ s.fp k
theorem Frm.nones (lo n : Nat) (w : World) : Frm lo (List.replicate n Res.none) w := by
  have key : ∀ (i : Nat) (r : Res), (List.replicate n Res.none)[i]? = some r → r = Res.none := fun i r h => (List.eq_of_mem_replicate (List.mem_of_getElem? h))
  exact ⟨fun i r h => by rw [key i r h]; exact ⟨trivial, fun k hk => hk.elim⟩, fun i j r s h _ _ k hk => by rw [key i r h] at hk; exact hk.elim⟩
theorem Frm.get {lo : Nat} {rs : List Res} {w : World} (h : Frm lo rs w) (q : Nat) {r : Res} (hq : rs[q]? = some r) : r.A w := (h.each q r hq).1
theorem Frm.lt {lo : Nat} {rs : List Res} {w : World} (h : Frm lo rs w) (q : Nat) {r : Res} (hq : rs[q]? = some r) : ∀ k, r.fp k → lo ≤ k ∧ k < w.heap.size := (h.each q r hq).2
/-- One of them turns. -/
theorem Frm.upd {lo : Nat} {rs : List Res} {w w' : World} (h : Frm lo rs w) {S : Nat → Prop} (q : Nat) {r' : Res} (hx : Chg S w w') (hS : ∀ (i : Nat) (s : Res), i ≠ q → rs[i]? = some s → ∀ k, s.fp k → ¬ S k) (ha : r'.A w') (hb : ∀ k, r'.fp k → lo ≤ k ∧ k < w'.heap.size)
    (hd : ∀ (i : Nat) (s : Res), i ≠ q → rs[i]? = some s → ∀ k, r'.fp k → ¬ s.fp k) : Frm lo (rs.set q r') w' := by
  have key : ∀ (i : Nat) (s : Res), (rs.set q r')[i]? = some s → (i = q ∧ s = r') ∨ (i ≠ q ∧ rs[i]? = some s) := by
    intro i s hs
    by_cases e : i = q
    · subst e
      left
      rw [List.getElem?_set] at hs
      simp only [↓reduceIte] at hs
      split at hs
      · exact ⟨rfl, (Option.some.inj hs).symm⟩
      · cases hs
    · rw [List.getElem?_set_ne (Ne.symm e)] at hs
      exact .inr ⟨e, hs⟩
  refine ⟨fun i s hs => ?_, fun i j s t hi hj hij k hk hk' => ?_⟩
  · rcases key i s hs with ⟨_, rfl⟩ | ⟨e, hs⟩
    · exact ⟨ha, hb⟩
    · have h1 := h.each i s hs
      exact ⟨s.stable _ _ (fun k hk => hx.block k (h1.2 k hk).2 (hS i s e hs k hk)) h1.1, fun k hk => by have := h1.2 k hk; have := hx.size; omega⟩
  · rcases key i s hi with ⟨e1, e2⟩ | ⟨e1, h1⟩
    · rcases key j t hj with ⟨e3, _⟩ | ⟨e3, h3⟩
      · exact hij (e1.trans e3.symm)
      · exact hd j t e3 h3 k (e2 ▸ hk) hk'
    · rcases key j t hj with ⟨_, e4⟩ | ⟨e3, h3⟩
      · exact hd i s e1 h1 k (e4 ▸ hk') hk
      · exact h.parts i j s t h1 h3 hij k hk hk'
theorem Frm.set {lo : Nat} {rs : List Res} {w w' : World} (h : Frm lo rs w) (q : Nat) {r r' : Res} (hq : rs[q]? = some r) (hx : Chg r.fp w w') (ha : r'.A w') (hf : ∀ k, r'.fp k → r.fp k ∨ (w.heap.size ≤ k ∧ k < w'.heap.size)) (hlo : lo ≤ w.heap.size) : Frm lo (rs.set q r') w' :=
  h.upd q hx (fun i s e hs k hk => h.parts i q s r hs hq e k hk) ha (fun k hk => by rcases hf k hk with h1 | h1; have := h.lt q hq k h1; have := hx.size; omega; omega)
    (fun i s e hs k hk hk' => by
      rcases hf k hk with h1 | h1
      · exact h.parts i q s r hs hq e k hk' h1
      · have := h.lt i hs k hk'; omega)
theorem Frm.drop {lo : Nat} {rs : List Res} {w : World} (h : Frm lo rs w) (q : Nat) : Frm lo (rs.set q Res.none) w :=
  h.upd q (Chg.refl (fun _ => False) w) (fun _ _ _ _ _ _ => id) trivial (fun _ hk => hk.elim) (fun _ _ _ _ _ hk => hk.elim)
/-- One takes in what another one has. -/
theorem Frm.join {lo : Nat} {rs : List Res} {w w' : World} (h : Frm lo rs w) (q p : Nat) (hqp : q ≠ p) {r s r' : Res} (hq : rs[q]? = some r) (hp : rs[p]? = some s) (hx : Chg r.fp w w') (ha : r'.A w') (hf : ∀ k, r'.fp k → r.fp k ∨ s.fp k ∨ (w.heap.size ≤ k ∧ k < w'.heap.size)) (hlo : lo ≤ w.heap.size) :
    Frm lo ((rs.set p Res.none).set q r') w' := by
  have h1 : Frm lo (rs.set p Res.none) w := h.upd p (Chg.refl (fun _ => False) w) (fun _ _ _ _ _ _ => id) trivial (fun k hk => hk.elim) (fun _ _ _ _ _ hk => hk.elim)
  have key : ∀ (i : Nat) (t : Res), i ≠ q → (rs.set p Res.none)[i]? = some t → t = Res.none ∨ (i ≠ p ∧ rs[i]? = some t) := by
    intro i t e ht
    by_cases e2 : i = p
    · subst e2
      rw [List.getElem?_set] at ht
      simp only [↓reduceIte] at ht
      split at ht
      · exact .inl (Option.some.inj ht).symm
      · cases ht
    · rw [List.getElem?_set_ne (Ne.symm e2)] at ht
      exact .inr ⟨e2, ht⟩
  refine h1.upd q hx (fun i t e ht k hk => ?_) ha (fun k hk => ?_) (fun i t e ht k hk hk' => ?_)
  · rcases key i t e ht with rfl | ⟨e2, ht⟩
    · exact hk.elim
    · exact h.parts i q t r ht hq e k hk
  · have hs := hx.size
    rcases hf k hk with h2 | h2 | h2
    · have := h.lt q hq k h2; omega
    · have := h.lt p hp k h2; omega
    · omega
  · rcases key i t e ht with rfl | ⟨e2, ht⟩
    · exact hk'.elim
    · rcases hf k hk with h2 | h2 | h2
      · exact h.parts i q t r ht hq e k hk' h2
      · exact h.parts i p t s ht hp e2 k hk' h2
      · have := h.lt i ht k hk'; omega
theorem Frm.ext {lo : Nat} {rs : List Res} {w w' : World} (h : Frm lo rs w) (hx : Ext w w') : Frm lo rs w' :=
  ⟨fun i r hr => let h1 := h.each i r hr; ⟨r.stable _ _ (fun k hk => Below.block hx k (h1.2 k hk).2) h1.1, fun k hk => by have := h1.2 k hk; have := hx.size; omega⟩, h.parts⟩
/-- What an operation hands back. -/
inductive Knd
  | no
  | val (v : Value)
  | app (n : Nat)
  | box (m : Nat)
  | ptr
  | any
def Knd.loud : Knd → Bool
  | .no => false
  | _ => true
def Knd.ok : Knd → Value → Prop
  | .val v, x => x = v
  | .app n, x => ∃ a c, x = .slice a n c
  | .box m, x => ∃ k, x = .slice (some ⟨k, 0, none⟩) m m
  | .ptr, x => ∃ k, x = .pointer (some ⟨k, 0, none⟩)
  | _, _ => True
def Knd.wit : Knd → Value
  | .val v => v
  | .app n => .slice none n 0
  | .box m => .slice (some ⟨0, 0, none⟩) m m
  | .ptr => .pointer (some ⟨0, 0, none⟩)
  | _ => undef
theorem Knd.wit_ok : ∀ k : Knd, k.ok k.wit
  | .no => trivial
  | .any => trivial
  | .val _ => rfl
  | .app _ => ⟨_, _, rfl⟩
  | .box _ => ⟨_, rfl⟩
  | .ptr => ⟨_, rfl⟩
def kAt (ks : List Knd) (k : Nat) : Knd := ks.getD k .no
theorem kAt_lt {ks : List Knd} {k : Nat} (h : (kAt ks k).loud = true) : k < ks.length := by
  by_cases hk : k < ks.length
  · exact hk
  · unfold kAt at h
    rw [List.getD_eq_getElem?_getD, List.getElem?_eq_none (by omega)] at h
    cases h
/-- What is so behind an operation that turns one of them; that turns none. -/
theorem aft_set {ks : List Knd} {i lo : Nat} {rs rs' : List Res} {w0 w' : World} {v : Value} (x : Lat (fun b _ => lo ≤ b) w0) (hlo : lo ≤ w0.heap.size) (hk : (kAt ks i).ok v) (h : Frm lo rs x.world) (q : Nat) {r r' : Res} (hq : rs[q]? = some r) (hx : Chg r.fp x.world w') (ha : r'.A w')
    (hf : ∀ k, r'.fp k → r.fp k ∨ (x.world.heap.size ≤ k ∧ k < w'.heap.size)) (he : rs.set q r' = rs') : (kAt ks i).ok v ∧ (∃ y : Lat (fun b _ => lo ≤ b) w0, w' = y.world) ∧ Frm lo rs' w' :=
  ⟨hk, ⟨x.chgd hx (fun k hk => .inr fun _ => (h.lt q hq k hk).1), rfl⟩, he ▸ h.set q hq hx ha hf (Nat.le_trans hlo x.size)⟩
theorem aft_same {ks : List Knd} {i lo : Nat} {rs rs' : List Res} {w0 : World} {v : Value} (x : Lat (fun b _ => lo ≤ b) w0) (hk : (kAt ks i).ok v) (h : Frm lo rs x.world) (he : rs = rs') : (kAt ks i).ok v ∧ (∃ y : Lat (fun b _ => lo ≤ b) w0, x.world = y.world) ∧ Frm lo rs' x.world := ⟨hk, ⟨x, rfl⟩, he ▸ h⟩
theorem aft_store {ks : List Knd} {i lo b j : Nat} {cs : Array Value} {rs rs' : List Res} {w0 : World} {u v : Value} (x : Lat (fun b _ => lo ≤ b) w0) (hlo : lo ≤ w0.heap.size) (hk : (kAt ks i).ok u) (h : Frm lo rs x.world) (q : Nat) (hq : rs[q]? = some (Res.blk b cs)) (he : rs.set q (Res.blk b (cs.setIfInBounds j v)) = rs') :
    (kAt ks i).ok u ∧ (∃ y : Lat (fun b _ => lo ≤ b) w0, x.world.setCell ⟨b, j, none⟩ v = y.world) ∧ Frm lo rs' (x.world.setCell ⟨b, j, none⟩ v) :=
  aft_set x hlo hk h q hq (Chg.setCell (S := fun k => k = b) (Chg.refl _ _) (.inr rfl) v) (r' := Res.blk b (cs.setIfInBounds j v)) (Blk.set (h.get q hq) j v) (fun _ hk => .inl hk) he
theorem wp_region_sep {P : Program} {id : Nat} {Q : Exit → Act → World → Prop} {a0 : Act} {w : World} {l : List Oper} (hm : P.follows .mixedOrders = true) (ks : List Knd) (lo : Nat) (rs : (Nat → Bool) → (Nat → Value) → List Res)
    (hg : goodReg l.toArray a0.tmps.size = true) (hlen : ks.length ≤ l.length) (hrs : ∀ L L' u, (∀ k, (kAt ks k).loud = true → L' k = L k) → rs L' u = rs L u) (h0 : ∀ u, Frm lo (rs (fun _ => false) u) w)
    (h : ∀ T, Stays T → Nonempty (LatT (fun b _ => lo ≤ b) w T) → ∀ u, (∀ k, (kAt ks k).loud = true → (kAt ks k).ok (u k)) → Lx P l.toArray (fun w' => ∃ x : Lat (fun b _ => lo ≤ b) w, w' = x.world) (fun k => (kAt ks k).loud) (fun k => (kAt ks k).ok) (fun L u w => Frm lo (rs L u) w)
      (fun w' => ∃ x : LatT (fun b _ => lo ≤ b) w T, w' = x.toLat.world) u (fun a => ∀ x : Lat (fun b _ => lo ≤ b) w, Frm lo (rs (fun _ => true) u) x.world → Q .normal a x.world) 0 l a0) : (Code.region id l.toArray true).wp P Q a0 w :=
  wp_region_lat hm (fun b _ => lo ≤ b) (fun k => (kAt ks k).loud) (fun k => (kAt ks k).ok) (fun L u w => Frm lo (rs L u) w) hg (fun k hk => Nat.lt_of_lt_of_le (kAt_lt hk) hlen) (fun L L' u w hh hs => by rw [hrs L L' u hh]; exact hs) (fun _ _ _ _ hs hx => hs.ext hx)
    (fun k => (kAt ks k).wit) (fun k _ => (kAt ks k).wit_ok) ((h0 _).ext (Ext.refl w).drew) h
theorem wp_append_sep {P : Program} {w : World} {ops : Array Oper} {rest : List Oper} {o : Oper} {a : Act} {Q : Exit → Act → World → Prop} (hgd : o.guard = none) (s x : Operand) (t e : TypeId) (z : Value) (size bytes : Nat)
    (ho : o.op = .call { callee := .builtin .append, args := #[s, x], argTypes := #[t, t] }) (hinfo : (P.info? e).map (fun i => (i.zero, i.size, i.bytes)) = some (some z, size, bytes)) (ht : P.underlying t = some (.slice e)) (hzs : z.cells.size = size) (hpos : 0 < size)
    (base : Nat) (v : Value) (n : Nat) (xs : List Value) (hs : a.eval s = v) (hown : w.ownsRow base e size v n xs) (base' k m c : Nat) (news : List Value) (hx : a.eval x = .slice (some ⟨k, 0, none⟩) m c) (hbox : w.ownsRow base' e size (.slice (some ⟨k, 0, none⟩) m c) m news)
    (h1 : ∀ u ∈ news, u.oneCell' = true) (hsz : n + m ≤ 1000000000) (hby : bytes ≤ 100000) (hbase : base ≤ w.heap.size)
    (h : ∀ v' w', w'.ownsRow base e size v' (n + m) (xs ++ news) → Chg (fun k => v.ownBlock = some k) w w' → (∀ k, v'.ownBlock = some k → v.ownBlock = some k ∨ (w.heap.size ≤ k ∧ k < w'.heap.size)) → wpList P ops Q rest (a.put o.dst v') w') : wpList P ops Q (o :: rest) a w := by
  obtain ⟨i0, hi, hz0, hz1, hz2⟩ := info_parts hinfo
  refine wpList_append_own_at w hgd s x t ho base e i0 z size bytes ht hi hz0 hz1 hz2 hzs hpos v n xs hs hown ⟨k, 0, none⟩ m c news hx hbox.1 (fun j u hu => World.ownsRow.cells hbox rfl j u hu) h1 (by unfold maxLen; omega) ?_ hbase (fun v' w' h1 h2 _ h4 => h v' w' h1 (grown_chg h2) fun k hk => ?_)
  · exact Nat.le_trans (Nat.mul_le_mul (by omega : n + m ≤ 1000000000) hby) (by decide)
  · rcases h4 with h4 | h4
    · exact .inl (h4 ▸ hk)
    · rw [h4] at hk
      cases hk
      exact .inr ⟨Nat.le_refl _, (World.ownsRow.lt h1 _ h4).2⟩
theorem own_box {w : World} {base size m : Nat} {e : TypeId} {cs : Array Value} (hb : base ≤ w.heap.size) (hm : m ≤ maxLen) (hs : cs.size = m * size) : (w.alloc (.cells cs e)).ownsRow base e size (.slice (some ⟨w.heap.size, 0, none⟩) m m) m cs.toList := by
  refine ⟨by simpa using hs, .inr ⟨w.heap.size, m, cs, rfl, hb, ?_, Nat.le_refl _, hm, hs, List.take_of_length_le (by simp [hs])⟩⟩
  show (w.heap.push _)[w.heap.size]? = _
  simp
theorem own_shape {w : World} {base size n : Nat} {e : TypeId} {v : Value} {xs : List Value} (h : w.ownsRow base e size v n xs) : ∃ a c, v = .slice a n c := by
  obtain ⟨h1, ⟨e, h2⟩ | ⟨g, cap, cur, e, _⟩⟩ := h
  · exact ⟨none, 0, by rw [e, h2]⟩
  · exact ⟨_, _, e⟩
end Go.Proofs.Ytpifdeglhalefaa
namespace Go.Proofs.Ytpifdeglhalefaa
open Go.RowKit Go.BigFrame
/-- The blocks from s on are as they were in a world. -/
def Res.snap (c : Nat × World) : Res := ⟨fun k => c.1 ≤ k ∧ k < c.2.heap.size, fun w => ∀ k, c.1 ≤ k → k < c.2.heap.size → w.heap[k]? = c.2.heap[k]?, fun _ _ h hw k h1 h2 => (h k ⟨h1, h2⟩).trans (hw k h1 h2)⟩
def Res.pure (φ : Prop) : Res := ⟨fun _ => False, fun _ => φ, fun _ _ _ h => h⟩
def FrmE {γ : Type} (lo : Nat) (m : γ → Nat) (rs : γ → List Res) (w : World) : Prop := ∃ c, m c ≤ w.heap.size ∧ Frm lo (rs c) w
theorem FrmE.ext {γ : Type} {lo : Nat} {m : γ → Nat} {rs : γ → List Res} {w w' : World} (h : FrmE lo m rs w) (hx : Ext w w') : FrmE lo m rs w' := let ⟨c, h1, h2⟩ := h; ⟨c, Nat.le_trans h1 hx.size, h2.ext hx⟩
def aggAt (i : Nat) : Value → Value
  | .agg cs => cs.getD i undef
  | .tuple cs => cs.getD i undef
  | _ => undef
def ptrAt : Value → Nat
  | .pointer (some ⟨k, _, _⟩) => k
  | _ => 0
/-- What an operation hands back, by a word of one's own. -/
structure Lik where
  loud : Bool
  p : Value → Prop
  w : Value
  ok : p w
def Lik.no : Lik := ⟨false, fun _ => True, undef, trivial⟩
def Lik.any : Lik := ⟨true, fun _ => True, undef, trivial⟩
def Lik.ptr : Lik := ⟨true, fun v => ∃ k, v = .pointer (some ⟨k, 0, none⟩), .pointer (some ⟨0, 0, none⟩), ⟨_, rfl⟩⟩
def Lik.slc (n : Nat) : Lik := ⟨true, fun v => ∃ a c, v = .slice a n c, .slice none n 0, ⟨_, _, rfl⟩⟩
def Lik.box (n : Nat) : Lik := ⟨true, fun v => ∃ k, v = .slice (some ⟨k, 0, none⟩) n n, .slice (some ⟨0, 0, none⟩) n n, ⟨_, rfl⟩⟩
def Lik.of (p : Value → Prop) (w : Value) (h : p w) : Lik := ⟨true, p, w, h⟩
def lAt (ks : List Lik) (k : Nat) : Lik := ks.getD k .no
theorem lAt_lt {ks : List Lik} {k : Nat} (h : (lAt ks k).loud = true) : k < ks.length := by
  by_cases hk : k < ks.length
  · exact hk
  · unfold lAt at h
    rw [List.getD_eq_getElem?_getD, List.getElem?_eq_none (by omega)] at h
    cases h
theorem wp_region_calls {γ : Type} {P : Program} {id : Nat} {Q : Exit → Act → World → Prop} {a0 : Act} {w : World} {l : List Oper} (hm : P.follows .mixedOrders = true) (ks : List Lik) (lo : Nat) (m : γ → Nat) (rs : γ → (Nat → Bool) → (Nat → Value) → List Res) (c0 : γ)
    (hg : goodReg l.toArray a0.tmps.size = true) (hlen : ks.length ≤ l.length) (hrs : ∀ c L L' u, (∀ k, (lAt ks k).loud = true → L' k = L k) → rs c L' u = rs c L u) (hm0 : m c0 ≤ w.heap.size) (h0 : ∀ u, Frm lo (rs c0 (fun _ => false) u) w)
    (h : ∀ T, Stays T → Nonempty (LatT (fun b _ => lo ≤ b) w T) → ∀ u, (∀ k, (lAt ks k).loud = true → (lAt ks k).p (u k)) → Lx P l.toArray (fun w' => ∃ x : Lat (fun b _ => lo ≤ b) w, w' = x.world) (fun k => (lAt ks k).loud) (fun k => (lAt ks k).p) (fun L u w => FrmE lo m (fun c => rs c L u) w)
      (fun w' => ∃ x : LatT (fun b _ => lo ≤ b) w T, w' = x.toLat.world) u (fun a => ∀ x : Lat (fun b _ => lo ≤ b) w, FrmE lo m (fun c => rs c (fun _ => true) u) x.world → Q .normal a x.world) 0 l a0) : (Code.region id l.toArray true).wp P Q a0 w :=
  wp_region_lat hm (fun b _ => lo ≤ b) (fun k => (lAt ks k).loud) (fun k => (lAt ks k).p) (fun L u w => FrmE lo m (fun c => rs c L u) w) hg (fun k hk => Nat.lt_of_lt_of_le (lAt_lt hk) hlen) (fun L L' u w hh ⟨c, h1, h2⟩ => ⟨c, h1, by show Frm lo (rs c L' u) w; rw [hrs c L L' u hh]; exact h2⟩) (fun _ _ _ _ hs hx => hs.ext hx)
    (fun k => (lAt ks k).w) (fun k _ => (lAt ks k).ok) (FrmE.ext ⟨c0, hm0, h0 _⟩ (Ext.refl w).drew) h
/-- Behind a call. -/
theorem lik_call {γ : Type} {ks : List Lik} {i lo : Nat} {m : γ → Nat} {rs : List Res} {rs' : γ → List Res} {w0 w' : World} {v : Value} (x : Lat (fun b _ => lo ≤ b) w0) (hlo : lo ≤ w0.heap.size) (hk : (lAt ks i).p v) (h : Frm lo rs x.world) (q q' : Nat) (hqq : q ≠ q') (hq : rs[q]? = some Res.none) (hq' : rs[q']? = some Res.none) (hx : Ext x.world w')
    (c' : γ) (hm : m c' ≤ w'.heap.size) {φ : Prop} (hφ : φ) (he : (rs.set q (Res.snap (x.world.heap.size, w'))).set q' (Res.pure φ) = rs' c') : (lAt ks i).p v ∧ (∃ y : Lat (fun b _ => lo ≤ b) w0, w' = y.world) ∧ FrmE lo m rs' w' := by
  have h1 := h.set q hq (hx.chg _) (r' := Res.snap (x.world.heap.size, w')) (fun k _ _ => rfl) (fun k hk => .inr hk) (Nat.le_trans hlo x.size)
  have h2 := h1.set q' (r := Res.none) (r' := Res.pure φ) (by rw [List.getElem?_set_ne hqq]; exact hq') (Chg.refl _ _) hφ (fun k hk => hk.elim) (Nat.le_trans (Nat.le_trans hlo x.size) hx.size)
  exact ⟨hk, ⟨x.ext hx, rfl⟩, c', hm, he ▸ h2⟩
theorem lik_set {γ : Type} {ks : List Lik} {i lo : Nat} {m : γ → Nat} {rs : List Res} {rs' : γ → List Res} {w0 w' : World} {v : Value} (x : Lat (fun b _ => lo ≤ b) w0) (hlo : lo ≤ w0.heap.size) (hk : (lAt ks i).p v) (h : Frm lo rs x.world) (q : Nat) {r r' : Res} (hq : rs[q]? = some r) (hx : Chg r.fp x.world w') (ha : r'.A w')
    (hf : ∀ k, r'.fp k → r.fp k ∨ (x.world.heap.size ≤ k ∧ k < w'.heap.size)) (c' : γ) (hm : m c' ≤ x.world.heap.size) (he : rs.set q r' = rs' c') : (lAt ks i).p v ∧ (∃ y : Lat (fun b _ => lo ≤ b) w0, w' = y.world) ∧ FrmE lo m rs' w' :=
  ⟨hk, ⟨x.chgd hx (fun k hk => .inr fun _ => (h.lt q hq k hk).1), rfl⟩, c', Nat.le_trans hm hx.size, he ▸ h.set q hq hx ha hf (Nat.le_trans hlo x.size)⟩
theorem snap_chg {s : Nat} {w0 w1 w : World} (hA : (Res.snap (s, w1)).A w) (h01 : Ext w0 w1) (hX : Ext w0 w) (hsz : w1.heap.size ≤ w.heap.size) : Chg (fun k => w0.heap.size ≤ k ∧ k < s) w1 w :=
  ⟨(Below.os hX).trans (Below.os h01).symm, (Below.tape hX).trans (Below.tape h01).symm, (Below.output hX).trans (Below.output h01).symm, hsz, fun k hk hs => by
    by_cases h : k < w0.heap.size
    · rw [Below.block hX k h, Below.block h01 k h]
    · exact hA k (by have : ¬ (w0.heap.size ≤ k ∧ k < s) := hs; show s ≤ k; omega) hk⟩
/-- Append of a slice that lies elsewhere. -/
theorem wp_append_from {P : Program} {w : World} {ops : Array Oper} {rest : List Oper} {o : Oper} {a : Act} {Q : Exit → Act → World → Prop} (hgd : o.guard = none) (s x : Operand) (t e : TypeId) (z : Value) (size bytes : Nat)
    (ho : o.op = .call { callee := .builtin .append, args := #[s, x], argTypes := #[t, t] }) (hinfo : (P.info? e).map (fun i => (i.zero, i.size, i.bytes)) = some (some z, size, bytes)) (ht : P.underlying t = some (.slice e)) (hzs : z.cells.size = size) (hpos : 0 < size)
    (base : Nat) (v : Value) (n : Nat) (xs : List Value) (hs : a.eval s = v) (hown : w.ownsRow base e size v n xs) (ya : Option Addr) (m c : Nat) (news : List Value) (hx : a.eval x = .slice ya m c) (hnil : ya = none → m = 0 ∧ c = 0)
    (hl : news.length = m * size) (hc : ∀ ad, ya = some ad → ∀ j u, news[j]? = some u → w.cell? (ad.add j) = some u) (h1 : ∀ u ∈ news, u.oneCell' = true) (hsz : n + m ≤ 1000000000) (hby : bytes ≤ 100000) (hbase : base ≤ w.heap.size)
    (h : ∀ v' w', w'.ownsRow base e size v' (n + m) (xs ++ news) → Chg (fun k => v.ownBlock = some k) w w' → (∀ k, v'.ownBlock = some k → v.ownBlock = some k ∨ (w.heap.size ≤ k ∧ k < w'.heap.size)) → wpList P ops Q rest (a.put o.dst v') w') : wpList P ops Q (o :: rest) a w := by
  obtain ⟨i0, hi, hz0, hz1, hz2⟩ := info_parts hinfo
  cases ya with
  | none =>
    obtain ⟨rfl, rfl⟩ := hnil rfl
    have : news = [] := List.length_eq_zero_iff.1 (by simpa using hl)
    subst this
    exact wpList_append_own_none hgd s x t ho base e i0 size ht hi v n xs hs hown hx (h v w (by simpa using hown) (Chg.refl _ _) (fun k hk => .inl hk))
  | some ad =>
    refine wpList_append_own_at w hgd s x t ho base e i0 z size bytes ht hi hz0 hz1 hz2 hzs hpos v n xs hs hown ad m c news hx hl (hc ad rfl) h1 (by unfold maxLen; omega) ?_ hbase (fun v' w' h1 h2 _ h4 => h v' w' h1 (grown_chg h2) fun k hk => ?_)
    · exact Nat.le_trans (Nat.mul_le_mul (by omega : n + m ≤ 1000000000) hby) (by decide)
    · rcases h4 with h4 | h4
      · exact .inl (h4 ▸ hk)
      · rw [h4] at hk
        cases hk
        exact .inr ⟨Nat.le_refl _, (World.ownsRow.lt h1 _ h4).2⟩
end Go.Proofs.Ytpifdeglhalefaa
