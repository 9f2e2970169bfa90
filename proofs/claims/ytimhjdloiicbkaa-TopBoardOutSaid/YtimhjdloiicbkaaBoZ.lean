/-
  Package board: a set of beds in a map of its own; the points of a box, one by one; sorted keys.
-/
import Derived.Test.YtimhjdloiicbkaaBoL
import Derived.Test.YtimhjdloiicbkaaRbx
import Derived.Test.YtimhjdloiicbkaaTryShelf
import Derived.Maps.OwnIn
namespace Go.Proofs.Ytimhjdloiicbkaa
open Go.RowKit Go.Shelf
attribute [local go_sem] Oper.semAt_some Later.cell Later.frozen run_makeMap_plain
theorem key_bed {x : Int} (h : I64 x) : keyOf Try.prog 37 (.int .i64 x) = some (kI x) := by
  simp [keyOf, show Try.prog.underlying 37 = some (.int .i64) by kernel_rfl, mapKey, kI, wf_i64 h]
theorem keyed_bed : Maps.Keyed Try.prog 37 := Maps.int_keyed (q := .i64) (by kernel_rfl)
theorem under_bset : Try.prog.underlying 65 = some (.map 37 4) := by kernel_rfl
/-- Block b is a set of beds: those on a list. -/
def SetD (w : World) (b : Nat) (l : List Int) : Prop := ∃ n, ∃ D : DI, w.ownsMap Try.prog 37 (plainElem Try.prog 4) b n D ∧ n ≤ l.length ∧ Maps.Tidy D ∧ Maps.size D ≤ l.length ∧ (∀ x, I64 x → Maps.has D (kI x) = l.contains x) ∧ ∀ x ∈ l, I64 x
theorem SetD.made {w : World} {n : Nat} (hn : n = w.heap.size) : SetD (w.alloc (.map #[] 0)) n [] := by
  subst hn
  exact ⟨0, .map [], World.ownsMap_made w _ _ _, Nat.le_refl _, Maps.tidy_empty, Nat.le_refl _, fun _ _ => rfl, fun x hx => by cases hx⟩
theorem SetD.lt {w : World} {b : Nat} {l : List Int} (h : SetD w b l) : b < w.heap.size := let ⟨_, _, h, _⟩ := h; World.ownsMap.lt h
theorem SetD.heap {w w' : World} {b : Nat} {l : List Int} (h : SetD w b l) (hx : ∀ o, w.heap[b]? = some o → w'.heap[b]? = some o) : SetD w' b l := by
  obtain ⟨n, D, ⟨es, clock, hb, F, h1, h2⟩, h3⟩ := h
  exact ⟨n, D, ⟨es, clock, hx _ hb, F, h1, h2⟩, h3⟩
theorem SetD.ext {w w' : World} {b : Nat} {l : List Int} (h : SetD w b l) (hx : Ext w w') : SetD w' b l := h.heap fun _ ho => hx.heap ho
theorem SetD.addD {w' : World} {b n : Nat} {l : List Int} {D : DI} {p : Int} (hp : I64 p) (h1 : w'.ownsMap Try.prog 37 (plainElem Try.prog 4) b (n + 1) (D.put (kI p) (.lit (.bool true)))) (hn : n ≤ l.length) (ht : Maps.Tidy D) (hs : Maps.size D ≤ l.length) (hat : ∀ x, I64 x → Maps.has D (kI x) = l.contains x) (hl : ∀ x ∈ l, I64 x) : SetD w' b (l ++ [p]) := by
  refine ⟨n + 1, _, h1, by simp; omega, ht.put (isKey_i hp) _, ?_, fun y hy => ?_, fun x hx => ?_⟩
  · rw [Maps.size_put ht]
    simp only [List.length_append, List.length_cons, List.length_nil]
    split <;> omega
  · by_cases e : y = p
    · subst e
      rw [Maps.has_put_same ht.isMap (isKey_i hp)]
      simp
    · rw [Maps.has_put_other (by simpa [kI] using e), hat y hy]
      simp [e]
  · rcases List.mem_append.1 hx with h | h
    · exact hl x h
    · simp only [List.mem_singleton] at h; subst h; exact hp
theorem wp_addD {w : World} {ops : Array Oper} {rest : List Oper} {o : Oper} {a : Act} {Q : Exit → Act → World → Prop} (hg : o.guard = none) (m x v : Operand) (hop : o.op = Op.mapUpdate 65 m x v) (b : Nat) (l : List Int) (p : Int)
    (hm : a.eval m = .map (some b)) (hs : SetD w b l) (hl : l.length ≤ 1000000) (hp : I64 p) (hx : a.eval x = .int .i64 p) (hv : a.eval v = .bool true)
    (hK : ∀ w', SetD w' b (l ++ [p]) → w.grownBy w' (some b) → wpList Try.prog ops Q rest (a.put o.dst undef) w') : wpList Try.prog ops Q (o :: rest) a w := by
  obtain ⟨n, D, ho, hn, ht, hsz, hat, hli⟩ := hs
  exact wpList_mapUpdate_own w hg m x v 65 hop 37 4 keyed_bed under_bset _ b n D hm ho (by unfold maxLen; omega) _ _ (kI p) hx hv (key_bed hp) _ [] (plainElem_bool under_bool true) fun w' h1 h2 => hK w' (SetD.addD hp h1 hn ht hsz hat hli) h2
theorem wpIn_addD {F : Fence} {nF : Nat} {w : World} {ops : Array Oper} {rest : List Oper} {o : Oper} {a : Act} {Q : Exit → Act → World → Prop} (hg : o.guard = none) (m x v : Operand) (hop : o.op = Op.mapUpdate 65 m x v) (b : Nat) (l : List Int) (p : Int)
    (hm : a.eval m = .map (some b)) (hs : SetD w b l) (hl : l.length ≤ 1000000) (hp : I64 p) (hx : a.eval x = .int .i64 p) (hv : a.eval v = .bool true)
    (hK : ∀ w', SetD w' b (l ++ [p]) → w.grownBy w' (some b) → wpListIn F nF Try.prog ops Q rest (a.put o.dst undef) w') : wpListIn F nF Try.prog ops Q (o :: rest) a w := by
  obtain ⟨n, D, ho, hn, ht, hsz, hat, hli⟩ := hs
  exact wpListIn_mapUpdate_own w hg m x v 65 hop 37 4 keyed_bed under_bset _ b n D hm ho (by unfold maxLen; omega) _ _ (kI p) hx hv (key_bed hp) _ [] (plainElem_bool under_bool true) fun w' h1 h2 => hK w' (SetD.addD hp h1 hn ht hsz hat hli) h2
/-- The beds below 500 that are on a list, ascending. -/
def setL (l : List Int) : List Int := ((List.range 500).filter fun (i : Nat) => l.contains (i : Int)).map fun (i : Nat) => (i : Int)
theorem setL_mem (l : List Int) (x : Int) : x ∈ setL l ↔ (0 ≤ x ∧ x < 500) ∧ x ∈ l := by
  unfold setL
  simp only [List.mem_map, List.mem_filter, List.mem_range, List.contains_eq_mem, decide_eq_true_eq]
  constructor
  · rintro ⟨i, ⟨h1, h2⟩, rfl⟩
    exact ⟨by omega, h2⟩
  · rintro ⟨h1, h2⟩
    exact ⟨x.toNat, ⟨by omega, by rwa [Int.toNat_of_nonneg h1.1]⟩, Int.toNat_of_nonneg h1.1⟩
theorem setL_sorted (l : List Int) : (setL l).Pairwise (· < ·) := by
  unfold setL
  rw [List.pairwise_map]
  refine List.Pairwise.filter _ ?_
  have := List.pairwise_lt_range (n := 500)
  exact this.imp fun h => by omega
theorem setL_eq {l ss : List Int} (hl : ∀ x ∈ l, 0 ≤ x ∧ x < 500) (hd : ss.Nodup) (hm : ∀ x, x ∈ ss ↔ x ∈ l) : ss.mergeSort leI = setL l := by
  have tr : ∀ a b c : Int, leI a b = true → leI b c = true → leI a c = true := fun a b c h1 h2 => by simp only [leI, decide_eq_true_eq] at *; exact Int.le_trans h1 h2
  have tt : ∀ a b : Int, (leI a b || leI b a) = true := fun a b => by simp only [leI, Bool.or_eq_true, decide_eq_true_eq]; exact Int.le_total a b
  refine List.Perm.eq_of_pairwise (le := fun a b => leI a b = true) (fun a b _ _ h1 h2 => ?_) (List.pairwise_mergeSort tr tt ss) ((setL_sorted l).imp fun h => by simp only [leI, decide_eq_true_eq]; omega) ((List.mergeSort_perm ss leI).trans ?_)
  · simp only [leI, decide_eq_true_eq] at h1 h2
    omega
  · refine (List.perm_ext_iff_of_nodup hd ((setL_sorted l).imp fun h => by omega)).2 fun x => ?_
    rw [hm x, setL_mem]
    exact ⟨fun h => ⟨hl x h, h⟩, fun h => h.2⟩
theorem SetD.keys {w : World} {b n : Nat} {l : List Int} {D : DI} (ho : w.ownsMap Try.prog 37 (plainElem Try.prog 4) b n D) (ht : Maps.Tidy D) (hat : ∀ x, I64 x → Maps.has D (kI x) = l.contains x) (hli : ∀ x ∈ l, I64 x) {ss : List Int} (hp : ss.Perm (intKeys D)) : ss.Nodup ∧ ∀ x, x ∈ ss ↔ x ∈ l := by
  have hwf := intKeys_wf ho (show Try.prog.underlying 37 = some (.int .i64) by kernel_rfl)
  obtain ⟨es, rfl, hpw⟩ := ht
  obtain ⟨es', e', hko⟩ := ho.keysOf
  cases e'
  have hk : ∀ p ∈ es, ∃ x, p.1 = .int .i64 x := fun p hp => by
    obtain ⟨v, hv⟩ := hko p hp
    obtain ⟨x, _, hx, _⟩ := Maps.keyOf_i64 (show Try.prog.underlying 37 = some (.int .i64) by kernel_rfl) hv
    exact ⟨x, hx⟩
  have hnd : (intKeys (.map es : DI)).Nodup := by
    show (es.map fun p => Go.intOf p.1).Nodup
    refine List.pairwise_map.2 (hpw.imp_of_mem fun {p q} hp' hq' hne e => hne ?_)
    obtain ⟨a, ha⟩ := hk p hp'
    obtain ⟨b, hb⟩ := hk q hq'
    rw [ha, hb] at e ⊢
    exact congrArg _ e
  refine ⟨(hp.nodup_iff).2 hnd, fun x => ?_⟩
  rw [hp.mem_iff]
  have hm : ∀ y, y ∈ intKeys (.map es : DI) ↔ Maps.has (.map es : DI) (kI y) = true := by
    intro y
    rw [Maps.has_eq, List.any_eq_true]
    show y ∈ es.map (fun p => Go.intOf p.1) ↔ _
    rw [List.mem_map]
    constructor
    · rintro ⟨p, hp', rfl⟩
      obtain ⟨a, ha⟩ := hk p hp'
      exact ⟨p, hp', by rw [ha]; simp [Lit.sameKey, Go.intOf, kI]⟩
    · rintro ⟨p, hp', hs⟩
      obtain ⟨a, ha⟩ := hk p hp'
      rw [ha] at hs
      exact ⟨p, hp', by rw [ha]; simpa [Lit.sameKey, Go.intOf, kI] using hs⟩
  constructor
  · intro hx
    have h1 := hwf x hx
    have h2 : I64 x := by
      simp [Lit.wf, IntKind.min, IntKind.max, IntKind.signed, IntKind.bits] at h1
      unfold I64
      omega
    have h3 := (hm x).1 hx
    rw [hat x h2] at h3
    simpa using h3
  · intro hx
    rw [hm x, hat x (hli x hx)]
    simpa using hx
theorem sortsD (m : Nat) : AnyZI.SortsIn Try.prog Try.sortedB_ren Fence.wide m :=
  ⟨fun blk off cap ss W hH hblk hsz => callsIn_wide.2 (AnyM.slices_Sort_int Try.sortB blk off cap ss W hH hblk hsz),
   fun p cap W => callsIn_wide.2 (AnyM.slices_Sort_int_none Try.sortB p cap W)⟩
theorem keys_call (mb : Option Nat) (W : World) : Calls Try.prog 18 #[.map mb] W fun e w' => e = .returned (.func (.func 30) #[] #[.pointer (some ⟨W.heap.size, 0, none⟩)]) ∧ w' = W.alloc (.cells #[.map mb] 65) :=
  callsIn_wide.1 (AnyZI.keys_in Try.keysB Fence.wide 5 trivial rfl mb W)
/-- A slice of beds of the call's own. -/
def OwnZ (w : World) (base : Nat) (v : Value) (xs : List Int) : Prop := w.ownsRow base 37 1 v xs.length (xs.map encZ)
theorem OwnZ.ext {w w' : World} {base : Nat} {v : Value} {xs : List Int} (h : OwnZ w base v xs) (hx : Ext w w') : OwnZ w' base v xs := own_chg h (hx.chg fun _ => False) fun _ _ => id
theorem OwnZ.cells {w : World} {base : Nat} {v : Value} {xs : List Int} (h : OwnZ w base v xs) : ∃ a c, v = .slice a xs.length c ∧ CellsAt w .i64 a xs := own_cells_i h
theorem sorted_call (b : Nat) (l : List Int) (W : World) (h : SetD W b l) (hl : l.length ≤ 1000000) (hr : ∀ x ∈ l, 0 ≤ x ∧ x < 500) :
    Calls Try.prog 17 #[.func (.func 30) #[] #[.pointer (some ⟨W.heap.size, 0, none⟩)]] (W.alloc (.cells #[.map (some b)] 65)) fun e w' => ∃ v, e = .returned v ∧ OwnZ w' W.heap.size v (setL l) ∧ Ext W w' := by
  refine (callsIn_wide (n := 5)).1 ?_
  obtain ⟨n, D, ho, hn, ht, hsz, hat, hli⟩ := h
  have hbl := ho.lt
  have hseq : SeqGives Fence.wide 2 Try.prog 30 #[.pointer (some ⟨W.heap.size, 0, none⟩)] encZ (fun ss => ss.Perm (intKeys D)) (Maps.size D) (W.alloc (.cells #[.map (some b)] 65)) :=
    AnyZI.keys_gives (ρ := Try.keysB_ren) { Try.keysB with } Fence.wide _ trivial rfl (by omega) W.heap.size b n D _ (by simp) (by simp) (by
      obtain ⟨es, clock, hb, Ft, hs, hD⟩ := ho
      exact ⟨es, clock, (Below.heap_alloc _ _ b hbl).trans hb, Ft, hs, hD⟩)
  have cS := AnyZI.sorted_in Try.sortedB Fence.wide 5 trivial trivial trivial trivial rfl (by omega) (sortsD _) (enters_of Try.func29 (by kernel_rfl) rfl) 30 #[.pointer (some ⟨W.heap.size, 0, none⟩)] trivial (enters_of Try.func30 (by kernel_rfl) rfl) _ _ (by unfold maxLen; omega) (by omega) _ hseq
  change CallsIn _ _ Try.prog 17 _ _ _ at cS
  refine cS.mono ?_
  rintro e w' ⟨v, ss, rfl, hS, hrow, -, hb⟩
  obtain ⟨hnd, hmem⟩ := SetD.keys ho ht hat hli hS
  have he := setL_eq hr hnd hmem
  refine ⟨v, rfl, ?_, Ext.of_below (((Below.refl _ W).alloc (Nat.le_refl _) _).trans (hb.mono (by simp))) (Nat.le_refl _)⟩
  have hlen : ss.length = (setL l).length := by rw [← he, List.length_mergeSort]
  have hrow' : w'.ownsRow (W.alloc (.cells #[.map (some b)] 65)).heap.size 37 1 v ss.length ((ss.mergeSort leI).map encZ) := hrow
  rw [he, hlen] at hrow'
  exact own_mono hrow' (by simp)
end Go.Proofs.Ytimhjdloiicbkaa
