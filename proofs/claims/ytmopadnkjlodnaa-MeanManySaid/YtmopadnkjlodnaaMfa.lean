/-
  Package mean: a visit's end is added to the extents of its goal.
-/
import Derived.Test.YtmopadnkjlodnaaBase
import Derived.Maps.RangeRun
import Derived.Maps.RangeWalk
import Derived.WideKeyRuns
import Derived.Laws.StructEq
import Derived.Test.YtmopadnkjlodnaaSen
import Derived.LaidEqlPtr
import Derived.WideMake
import Derived.Deep.DeepCutAuto
import Derived.Deep.CutBlock
namespace Go.Proofs.Ytmopadnkjlodnaa
open Go.RowKit
open Go.ChangeMaps (setBlock)
variable {κ ν : Type}
/-- What a type of keys owes, in worlds of G. -/
structure KeyL [DecidableEq κ] (P : Program) (T : TypeId) (ek : κ → Value) (G : World → Prop) : Prop where
  wide : ∀ k es w, (Instr.findKey T (ek k) es).run P w = (Instr.findAsking T (ek k) es).run P w
  chk : ∀ em k w, (Instr.checkKey em 10000 T (ek k)).run P w = .ok () w
  eq : ∀ a b w, G w → (Op.equal T (ek a) (ek b)).run P w = .ok (decide (a = b)) w
  bits : ∀ k, Instr.sameBits 10000 (ek k) (ek k) = true
def entE (e : MapEntry) : Value × Value := (e.key, e.val)
def encE (ek : κ → Value) (ev : ν → Value) (x : κ × ν) : Value × Value := (ek x.1, ev x.2)
def posL [DecidableEq κ] : List (κ × ν) → κ → Nat → Option (Nat × ν)
  | [], _, _ => none
  | x :: l, k, i => if k = x.1 then some (i, x.2) else posL l k (i + 1)
def lookL [DecidableEq κ] (l : List (κ × ν)) (k : κ) : Option ν := (posL l k 0).map (·.2)
def putL [DecidableEq κ] (l : List (κ × ν)) (k : κ) (v : ν) : List (κ × ν) := match posL l k 0 with
  | some (i, _) => l.set i (k, v)
  | none => l ++ [(k, v)]
theorem posL_some [DecidableEq κ] : ∀ (l : List (κ × ν)) (k : κ) (i j : Nat) (v : ν), posL l k i = some (j, v) → ∃ q, j = i + q ∧ l[q]? = some (k, v)
  | [], _, _, _, _, h => by cases h
  | x :: l, k, i, j, v, h => by
    unfold posL at h
    split at h
    · rename_i e
      cases h
      exact ⟨0, rfl, by simp [e]⟩
    · obtain ⟨q, h1, h2⟩ := posL_some l k (i + 1) j v h
      exact ⟨q + 1, by omega, by simpa using h2⟩
theorem posL_none [DecidableEq κ] : ∀ (l : List (κ × ν)) (k : κ) (i : Nat), posL l k i = none ↔ k ∉ l.map (·.1)
  | [], _, _ => by simp [posL]
  | x :: l, k, i => by
    unfold posL
    split
    · rename_i e
      simp [e]
    · rename_i e
      rw [posL_none l k (i + 1)]
      simp [e]
theorem lookL_none [DecidableEq κ] (l : List (κ × ν)) (k : κ) : lookL l k = none ↔ k ∉ l.map (·.1) := by
  unfold lookL; rw [Option.map_eq_none_iff]; exact posL_none l k 0
theorem lookL_mem [DecidableEq κ] {l : List (κ × ν)} {k : κ} {v : ν} (h : lookL l k = some v) : (k, v) ∈ l := by
  unfold lookL at h
  cases hp : posL l k 0 with
  | none => rw [hp] at h; cases h
  | some p =>
    rw [hp] at h
    cases h
    obtain ⟨q, -, h2⟩ := posL_some l k 0 p.1 p.2 hp
    exact List.mem_of_getElem? h2
theorem lookL_of_mem [DecidableEq κ] : ∀ {l : List (κ × ν)} {k : κ} {v : ν}, (l.map (·.1)).Nodup → (k, v) ∈ l → lookL l k = some v := by
  intro l k v hn hm
  cases h : lookL l k with
  | none => exact absurd (List.mem_map.2 ⟨_, hm, rfl⟩) ((lookL_none l k).1 h)
  | some u =>
    have h1 := lookL_mem h
    congr 1
    obtain ⟨i, hi, e1⟩ := List.mem_iff_getElem.1 hm
    obtain ⟨j, hj, e2⟩ := List.mem_iff_getElem.1 h1
    have hij : i = j := by
      rcases Nat.lt_trichotomy i j with h | h | h
      · exact absurd (by simp [e1, e2] : (l.map (·.1))[i]'(by simpa using hi) = (l.map (·.1))[j]'(by simpa using hj)) (List.pairwise_iff_getElem.1 hn i j _ _ h)
      · exact h
      · exact absurd (by simp [e1, e2] : (l.map (·.1))[j]'(by simpa using hj) = (l.map (·.1))[i]'(by simpa using hi)) (List.pairwise_iff_getElem.1 hn j i _ _ h)
    subst hij
    rw [e1] at e2
    cases e2
    rfl
theorem putL_keys [DecidableEq κ] (l : List (κ × ν)) (k : κ) (v : ν) : (putL l k v).map (·.1) = if k ∈ l.map (·.1) then l.map (·.1) else l.map (·.1) ++ [k] := by
  unfold putL
  cases h : posL l k 0 with
  | none => rw [if_neg ((posL_none l k 0).1 h)]; simp
  | some p =>
    obtain ⟨q, h1, h2⟩ := posL_some l k 0 p.1 p.2 h
    have hm : k ∈ l.map (·.1) := List.mem_map.2 ⟨_, List.mem_of_getElem? h2, rfl⟩
    rw [if_pos hm]
    simp only
    rw [List.map_set]
    obtain ⟨hq, e⟩ := List.getElem?_eq_some_iff.1 h2
    have e0 : p.1 = q := by omega
    rw [e0]
    apply List.ext_getElem?
    intro i
    rw [List.getElem?_set]
    split
    · rename_i e3
      subst e3
      simp [hq, e]
    · rfl
theorem putL_nodup [DecidableEq κ] {l : List (κ × ν)} (h : (l.map (·.1)).Nodup) (k : κ) (v : ν) : ((putL l k v).map (·.1)).Nodup := by
  rw [putL_keys]
  split
  · exact h
  · rename_i hk
    rw [List.nodup_append]
    exact ⟨h, by simp, fun a ha b hb => by simp at hb; subst hb; exact fun e => hk (e ▸ ha)⟩
theorem lookL_put [DecidableEq κ] {l : List (κ × ν)} (hn : (l.map (·.1)).Nodup) (k : κ) (v : ν) (j : κ) : lookL (putL l k v) j = if j = k then some v else lookL l j := by
  have hn2 := putL_nodup hn k v
  have hmem : ∀ x, x ∈ putL l k v ↔ x = (k, v) ∨ (x ∈ l ∧ x.1 ≠ k) := by
    intro x
    unfold putL
    cases h : posL l k 0 with
    | none =>
      have hk := (posL_none l k 0).1 h
      simp only [List.mem_append, List.mem_singleton]
      constructor
      · rintro (h1 | h1)
        · exact .inr ⟨h1, fun e => hk (List.mem_map.2 ⟨x, h1, e⟩)⟩
        · exact .inl h1
      · rintro (h1 | h1)
        · exact .inr h1
        · exact .inl h1.1
    | some p =>
      obtain ⟨q, h1, h2⟩ := posL_some l k 0 p.1 p.2 h
      obtain ⟨hq, e⟩ := List.getElem?_eq_some_iff.1 h2
      have e0 : p.1 = q := by omega
      simp only [e0]
      constructor
      · intro hx
        obtain ⟨i, hi, e3⟩ := List.mem_iff_getElem.1 hx
        rw [List.getElem_set] at e3
        split at e3
        · exact .inl e3.symm
        · rename_i hne
          have hil : i < l.length := by simpa using hi
          refine .inr ⟨e3 ▸ List.getElem_mem hil, fun ek => ?_⟩
          have := List.pairwise_iff_getElem.1 hn
          rcases Nat.lt_or_gt_of_ne hne with h | h
          · exact absurd (by rw [List.getElem_map, List.getElem_map, e, e3, ek]) (this q i (by simpa using hq) (by simpa using hil) h)
          · exact absurd (by rw [List.getElem_map, List.getElem_map, e, e3, ek]) (this i q (by simpa using hil) (by simpa using hq) h)
      · rintro (rfl | ⟨hx, hk⟩)
        · exact List.mem_iff_getElem.2 ⟨q, by simpa using hq, by simp⟩
        · obtain ⟨i, hi, e3⟩ := List.mem_iff_getElem.1 hx
          refine List.mem_iff_getElem.2 ⟨i, by simpa using hi, ?_⟩
          rw [List.getElem_set, if_neg (by rintro rfl; rw [e] at e3; exact hk (by rw [← e3]))]
          exact e3
  by_cases e : j = k
  · subst e
    rw [if_pos rfl]
    exact lookL_of_mem hn2 ((hmem _).2 (.inl rfl))
  · rw [if_neg e]
    cases h : lookL l j with
    | none =>
      rw [lookL_none] at h ⊢
      rw [putL_keys]
      split
      · exact h
      · simp only [List.mem_append, List.mem_singleton, not_or]
        exact ⟨h, e⟩
    | some u => exact lookL_of_mem hn2 ((hmem _).2 (.inr ⟨lookL_mem h, e⟩))
section
variable {P : Program} {T : TypeId} {ek : κ → Value} {ev : ν → Value} {G : World → Prop}
theorem find_run [DecidableEq κ] (K : KeyL P T ek G) {w : World} (hG : G w) (k : κ) : ∀ (l : List (κ × ν)) (es : List MapEntry) (i : Nat), es.map entE = l.map (encE ek ev) → (Instr.findAsking T (ek k) es i).run P w = .ok ((posL l k i).map fun p => (p.1, ev p.2)) w
  | [], [], i, _ => by simp [Instr.findAsking, posL]
  | [], e :: es, i, h => by cases h
  | x :: l, [], i, h => by cases h
  | x :: l, e :: es, i, h => by
    simp only [List.map_cons, List.cons.injEq] at h
    obtain ⟨h1, h2⟩ := h
    simp only [entE, encE, Prod.mk.injEq] at h1
    have ih := find_run K hG k l es (i + 1) h2
    by_cases hk : k = x.1
    · simp [Instr.findAsking, posL, h1.1, h1.2, K.eq _ _ _ hG, hk]
    · simp [Instr.findAsking, posL, h1.1, K.eq _ _ _ hG, hk, ih]
/-- Block b is a map of just these. -/
structure MapL (ek : κ → Value) (ev : ν → Value) (w : World) (b : Nat) (l : List (κ × ν)) : Prop where
  ex : ∃ es clock, w.heap[b]? = some (.map es clock) ∧ es.toList.map entE = l.map (encE ek ev) ∧ (l.map (·.1)).Nodup ∧ (∀ e ∈ es.toList, e.born < clock) ∧ (es.toList.map (·.born)).Nodup
theorem MapL.nodup {w : World} {b : Nat} {l : List (κ × ν)} (h : MapL ek ev w b l) : (l.map (·.1)).Nodup := let ⟨_, _, _, _, h, _⟩ := h.ex; h
theorem MapL.lt {w : World} {b : Nat} {l : List (κ × ν)} (h : MapL ek ev w b l) : b < w.heap.size := let ⟨_, _, h, _⟩ := h.ex; (Array.getElem?_eq_some_iff.1 h).1
theorem MapL.same {w w' : World} {b : Nat} {l : List (κ × ν)} (h : MapL ek ev w b l) (e : w'.heap[b]? = w.heap[b]?) : MapL ek ev w' b l := let ⟨es, clock, h1, h2⟩ := h.ex; ⟨es, clock, e.trans h1, h2⟩
theorem MapL.ext {w w' : World} {b : Nat} {l : List (κ × ν)} (h : MapL ek ev w b l) (hx : Ext w w') : MapL ek ev w' b l := h.same (Below.block hx b h.lt)
theorem MapL.chg {S : Nat → Prop} {w w' : World} {b : Nat} {l : List (κ × ν)} (h : MapL ek ev w b l) (hx : Chg S w w') (hs : ¬ S b) : MapL ek ev w' b l := h.same (hx.block b h.lt hs)
theorem MapL.made (w : World) : MapL ek ev (w.alloc (.map #[] 0)) w.heap.size ([] : List (κ × ν)) :=
  ⟨#[], 0, by show (w.heap.push _)[w.heap.size]? = _; simp, rfl, by simp, by simp, by simp⟩
theorem run_look [DecidableEq κ] (K : KeyL P T ek G) {t e : TypeId} (ht : P.underlying t = some (.map T e)) {w : World} {b : Nat} {l : List (κ × ν)} (h : MapL ek ev w b l) (hG : G w) {z : Value} (hz : (zeroValue e).run P w = .ok z w) (k : κ) :
    (Instr.lookup t (.map (some b)) (ek k) false).run P w = .ok (((lookL l k).map ev).getD z) w ∧ (Instr.lookup t (.map (some b)) (ek k) true).run P w = .ok (.tuple #[((lookL l k).map ev).getD z, .bool (lookL l k).isSome]) w := by
  obtain ⟨es, clock, h1, h2, -⟩ := h.ex
  have hf := find_run K hG k l es.toList 0 h2
  unfold lookL
  cases hp : posL l k 0 with
  | none =>
    rw [hp] at hf
    constructor <;> simp [Instr.lookup, run_underlying ht, getObj, Sem.run, h1, K.chk, K.wide, hf, hz, Result.andThen]
  | some p =>
    rw [hp] at hf
    constructor <;> simp [Instr.lookup, run_underlying ht, getObj, Sem.run, h1, K.chk, K.wide, hf, Result.andThen]
theorem chg_setBlock {w : World} {b : Nat} (o : Obj) : Chg (· = b) w (setBlock w b o) :=
  ⟨rfl, rfl, rfl, by simp [setBlock], fun k hk hs => by show (w.heap.setIfInBounds b o)[k]? = _; rw [Array.getElem?_setIfInBounds_ne (by exact fun h => hs h.symm)]⟩
theorem run_setObj_map {w : World} {r : Nat} {es : Array MapEntry} {c : Nat} (hr : w.heap[r]? = some (.map es c)) (o' : Obj) : (setObj r o').run P w = .ok () (setBlock w r o') := by
  simp [setObj, Sem.run, hr, setBlock]
theorem run_put [DecidableEq κ] (K : KeyL P T ek G) {t e : TypeId} (ht : P.underlying t = some (.map T e)) {w : World} {b : Nat} {l : List (κ × ν)} (h : MapL ek ev w b l) (hG : G w) (k : κ) (v : ν) :
    ∃ w', (Instr.mapUpdate t (.map (some b)) (ek k) (ev v)).run P w = .ok () w' ∧ MapL ek ev w' b (putL l k v) ∧ Chg (· = b) w w' := by
  obtain ⟨es, clock, h1, h2, h3, h4, h5⟩ := h.ex
  have hf := find_run K hG k l es.toList 0 h2
  have hb := (Array.getElem?_eq_some_iff.1 h1).1
  have hn := putL_nodup h3 k v
  cases hp : posL l k 0 with
  | none =>
    rw [hp] at hf
    have hput : putL l k v = l ++ [(k, v)] := by unfold putL; rw [hp]
    refine ⟨setBlock w b (.map (es.push ⟨ek k, ev v, clock⟩) (clock + 1)), ?_, ⟨es.push ⟨ek k, ev v, clock⟩, clock + 1, ?_, ?_, hn, ?_, ?_⟩, chg_setBlock _⟩
    · simp [Instr.mapUpdate, run_underlying ht, getObj, Sem.run, h1, K.chk, K.wide, hf, Result.andThen]
      exact run_setObj_map h1 _
    · simp [setBlock, hb]
    · simp [hput, h2, entE, encE]
    · intro x hx
      simp at hx
      rcases hx with hx | rfl
      · have := h4 x (by simpa using hx); omega
      · simp
    · simp only [Array.toList_push, List.map_append, List.map_cons, List.map_nil]
      rw [List.nodup_append]
      refine ⟨h5, by simp, fun a ha c hc => ?_⟩
      obtain ⟨x, hx, rfl⟩ := List.mem_map.1 ha
      simp at hc
      have := h4 x hx
      omega
  | some p =>
    rw [hp] at hf
    obtain ⟨q, e1, e2⟩ := posL_some l k 0 p.1 p.2 hp
    have e0 : p.1 = q := by omega
    obtain ⟨hq, e3⟩ := List.getElem?_eq_some_iff.1 e2
    have hput : putL l k v = l.set q (k, v) := by unfold putL; rw [hp]; simp only [e0]
    have hlen : es.toList.length = l.length := by have := congrArg List.length h2; simpa using this
    have hqe : q < es.size := by have := hlen; simp at this; omega
    have hkey : es[q].key = ek k := by
      have := congrArg (fun z => z[q]?) h2
      simp only [List.getElem?_map, e2] at this
      rw [List.getElem?_eq_getElem (by simpa using hqe)] at this
      simp [entE, encE] at this
      exact this.1
    refine ⟨setBlock w b (.map (es.modify q fun x => { x with key := ek k, val := ev v }) clock), ?_, ⟨es.modify q fun x => { x with key := ek k, val := ev v }, clock, ?_, ?_, hn, ?_, ?_⟩, chg_setBlock _⟩
    · simp [Instr.mapUpdate, run_underlying ht, getObj, Sem.run, h1, K.chk, K.wide, hf, Result.andThen, e0, hqe, hkey, Instr.keyThatStays, K.bits]
      exact run_setObj_map h1 _
    · simp [setBlock, hb]
    · rw [hput, List.map_set, ← h2]
      apply List.ext_getElem?
      intro i
      rw [List.getElem?_set, List.getElem?_map, Array.getElem?_toList, Array.getElem?_modify, List.getElem?_map, Array.getElem?_toList]
      by_cases hi : q = i
      · subst hi
        simp [hqe, entE, encE]
      · rw [if_neg hi, if_neg hi]
    · intro x hx
      obtain ⟨i, hi, rfl⟩ := List.mem_iff_getElem.1 hx
      have hi2 : i < es.size := by simpa using hi
      have := h4 es[i] (by simp)
      rw [Array.getElem_toList, Array.getElem_modify]
      split <;> exact this
    · have : (es.modify q fun x => { x with key := ek k, val := ev v }).toList.map (·.born) = es.toList.map (·.born) := by
        apply List.ext_getElem?
        intro i
        rw [List.getElem?_map, Array.getElem?_toList, Array.getElem?_modify, List.getElem?_map, Array.getElem?_toList]
        split
        · cases es[i]? <;> rfl
        · rfl
      rw [this]
      exact h5
/-- Block r ranges over the map in block b, and these are still to come. -/
structure IterL (ek : κ → Value) (ev : ν → Value) (w : World) (r b : Nat) (left : List (κ × ν)) : Prop where
  ex : ∃ seen c es, w.heap[r]? = some (.mapIter (some b) c seen c) ∧ w.heap[b]? = some (.map es c) ∧ (∀ x ∈ es.toList, x.born < c) ∧ (es.toList.map (·.born)).Nodup ∧ (leftOf es seen).toList.map entE = left.map (encE ek ev)
theorem IterL.ltr {w : World} {r b : Nat} {l : List (κ × ν)} (h : IterL ek ev w r b l) : r < w.heap.size := let ⟨_, _, _, h, _⟩ := h.ex; (Array.getElem?_eq_some_iff.1 h).1
theorem IterL.ltb {w : World} {r b : Nat} {l : List (κ × ν)} (h : IterL ek ev w r b l) : b < w.heap.size := let ⟨_, _, _, _, h, _⟩ := h.ex; (Array.getElem?_eq_some_iff.1 h).1
theorem IterL.same {w w' : World} {r b : Nat} {l : List (κ × ν)} (h : IterL ek ev w r b l) (e : w'.heap[r]? = w.heap[r]?) (e2 : w'.heap[b]? = w.heap[b]?) : IterL ek ev w' r b l :=
  let ⟨seen, c, es, h1, h2, h3⟩ := h.ex; ⟨seen, c, es, e.trans h1, e2.trans h2, h3⟩
theorem IterL.ext {w w' : World} {r b : Nat} {l : List (κ × ν)} (h : IterL ek ev w r b l) (hx : Ext w w') : IterL ek ev w' r b l := h.same (Below.block hx r h.ltr) (Below.block hx b h.ltb)
theorem IterL.chg {S : Nat → Prop} {w w' : World} {r b : Nat} {l : List (κ × ν)} (h : IterL ek ev w r b l) (hx : Chg S w w') (hr : ¬ S r) (hb : ¬ S b) : IterL ek ev w' r b l := h.same (hx.block r h.ltr hr) (hx.block b h.ltb hb)
theorem run_rangeL {t e : TypeId} (ht : P.underlying t = some (.map T e)) {w : World} {b : Nat} {l : List (κ × ν)} (h : MapL ek ev w b l) :
    ∃ o, (Instr.range t (.map (some b))).run P w = .ok (.pointer (some ⟨w.heap.size, 0, none⟩)) (w.alloc o) ∧ IterL ek ev (w.alloc o) w.heap.size b l := by
  obtain ⟨es, clock, h1, h2, h3, h4, h5⟩ := h.ex
  have hb := (Array.getElem?_eq_some_iff.1 h1).1
  refine ⟨.mapIter (some b) clock #[] clock, ?_, #[], clock, es, ?_, ?_, h4, h5, ?_⟩
  · simp [Instr.range, run_underlying ht, getObj, newObj, Sem.run, h1, Result.andThen]
  · show (w.heap.push _)[w.heap.size]? = _
    simp
  · show (w.heap.push _)[b]? = _
    rw [Array.getElem?_push_lt hb, ← h1, Array.getElem?_eq_getElem hb]
  · have : leftOf es #[] = es := by unfold leftOf; exact Array.filter_eq_self.2 (by simp)
    rw [this]; exact h2
theorem left_push {es : Array MapEntry} {seen : Array Nat} {e : MapEntry} (hn : (es.toList.map (·.born)).Nodup) (he : e ∈ (leftOf es seen).toList) :
    ∃ pre post, (leftOf es seen).toList = pre ++ e :: post ∧ (leftOf es (seen.push e.born)).toList = pre ++ post := by
  obtain ⟨pre, post, hs⟩ := List.append_of_mem he
  refine ⟨pre, post, hs, ?_⟩
  have hnl : ((leftOf es seen).toList.map (·.born)).Nodup := by
    unfold leftOf
    rw [Array.toList_filter]
    exact List.Sublist.nodup (List.Sublist.map _ List.filter_sublist) hn
  have hf : (leftOf es (seen.push e.born)).toList = (leftOf es seen).toList.filter fun x => !(x.born == e.born) := by
    unfold leftOf
    rw [Array.toList_filter, Array.toList_filter, List.filter_filter]
    refine List.filter_congr fun x _ => ?_
    simp only [Array.contains_push, Bool.not_or]
    rw [Bool.and_comm]
  rw [hf, hs, List.filter_append, List.filter_cons, if_neg (by simp)]
  rw [hs] at hnl
  simp only [List.map_append, List.map_cons] at hnl
  obtain ⟨_, h2, h3⟩ := List.nodup_append.1 hnl
  rw [List.nodup_cons] at h2
  congr 1
  · refine List.filter_eq_self.2 fun x hx => ?_
    have := h3 x.born (List.mem_map.2 ⟨x, hx, rfl⟩) e.born (by simp)
    simpa using this
  · refine List.filter_eq_self.2 fun x hx => ?_
    have : x.born ≠ e.born := fun h => h2.1 (List.mem_map.2 ⟨x, hx, h⟩)
    simpa using this
theorem run_nextL {w : World} {r b : Nat} {left : List (κ × ν)} (h : IterL ek ev w r b left) (ty : TypeId) :
    (left = [] ∧ (Instr.next (.pointer (some ⟨r, 0, none⟩)) false ty).run P w = .ok (.tuple #[.bool false]) w) ∨
    ∃ pre x post w', left = pre ++ x :: post ∧ (Instr.next (.pointer (some ⟨r, 0, none⟩)) false ty).run P w = .ok (.tuple #[.bool true, ek x.1, ev x.2]) w' ∧ IterL ek ev w' r b (pre ++ post) ∧ Chg (· = r) w w' ∧
      (Instr.entry (.pointer (some ⟨r, 0, none⟩))).run P w' = .ok (.tuple #[ek x.1, ev x.2]) w' := by
  obtain ⟨seen, c, es, h1, h2, h3, h4, h5⟩ := h.ex
  have hr := (Array.getElem?_eq_some_iff.1 h1).1
  have hne : r ≠ b := fun e => by subst e; rw [h1] at h2; cases h2
  rcases run_next_at (P := P) w ty r b c c seen es c h1 h2 h3 (Nat.le_refl _) with ⟨h0, hrun⟩ | ⟨e, he, w1, hw1, hrun⟩
  · left
    refine ⟨?_, hrun⟩
    have := congrArg List.length h5
    simp only [List.length_map, Array.length_toList, h0] at this
    exact List.length_eq_zero_iff.1 this.symm
  · right
    obtain ⟨pre', post', hs, hp⟩ := left_push h4 he
    rw [hs] at h5
    simp only [List.map_append, List.map_cons] at h5
    obtain ⟨pre, rest, e1, e2, e3⟩ := List.map_eq_append_iff.1 h5.symm
    obtain ⟨x, post, e4, e5, e6⟩ := List.map_eq_cons_iff.1 e3
    subst e1 e4
    simp only [entE, encE, Prod.mk.injEq] at e5
    have hc : Chg (· = r) w w1 := by rcases hw1 with rfl | rfl; exact Chg.refl _ _; exact (Chg.refl _ _).drew
    have hk : w1.heap = w.heap := by rcases hw1 with rfl | rfl <;> rfl
    have hem := (mem_left he).1
    refine ⟨pre, x, post, setBlock w1 r (.mapIter (some b) c (seen.push e.born) c), rfl, ?_, ⟨seen.push e.born, c, es, ?_, ?_, h3, h4, ?_⟩, hc.trans (chg_setBlock _), ?_⟩
    · rw [hrun, ← e5.1, ← e5.2]
    · simp [setBlock, hk, hr]
    · show (w1.heap.setIfInBounds r _)[b]? = _
      rw [Array.getElem?_setIfInBounds_ne hne, hk, h2]
    · rw [hp, List.map_append, List.map_append, e2, e6]
    · rw [e5.1, e5.2]
      refine run_entry_at _ r b c seen es c e ?_ ?_ hem h4
      · simp [setBlock, hk, hr]
      · show (w1.heap.setIfInBounds r _)[b]? = _
        rw [Array.getElem?_setIfInBounds_ne hne, hk, h2]
theorem wp_nextL {w : World} {ops : Array Oper} {rest : List Oper} {o : Oper} {a : Act} {Q : Exit → Act → World → Prop} (hg : o.guard = none) (it : Operand) (hop : o.op = Op.next it false) (r b : Nat) (left : List (κ × ν)) (hit : a.eval it = .pointer (some ⟨r, 0, none⟩)) (h : IterL ek ev w r b left)
    (hDone : left = [] → wpList P ops Q rest (a.put o.dst (.tuple #[.bool false])) w)
    (hMore : ∀ (x : κ) (y : ν) pre post w', left = pre ++ (x, y) :: post → IterL ek ev w' r b (pre ++ post) → Chg (· = r) w w' → (Instr.entry (.pointer (some ⟨r, 0, none⟩))).run P w' = .ok (.tuple #[ek x, ev y]) w' → wpList P ops Q rest (a.put o.dst (.tuple #[.bool true, ek x, ev y])) w') : wpList P ops Q (o :: rest) a w := by
  refine wpList_plain hg fun K hK => ?_
  unfold Oper.wp
  rcases run_nextL h o.type with ⟨h0, hrun⟩ | ⟨pre, x, post, w', h1, hrun, h2, h3, h4⟩
  · simp [execOp, hop, hit, Result.andThen]
    rw [hrun]
    exact hK _ _ (hDone h0)
  · simp [execOp, hop, hit, Result.andThen]
    rw [hrun]
    exact hK _ _ (hMore x.1 x.2 pre post w' h1 h2 h3 h4)
theorem wp_putL [DecidableEq κ] (KL : KeyL P T ek G) {t e : TypeId} (ht : P.underlying t = some (.map T e)) {w : World} {ops : Array Oper} {rest : List Oper} {o : Oper} {a : Act} {Q : Exit → Act → World → Prop} (hg : o.guard = none) (m x v : Operand) (hop : o.op = Op.mapUpdate t m x v) (b : Nat) (l : List (κ × ν)) (k : κ) (y : ν)
    (hm : a.eval m = .map (some b)) (h : MapL ek ev w b l) (hG : G w) (hx : a.eval x = ek k) (hv : a.eval v = ev y) (hK' : ∀ w', MapL ek ev w' b (putL l k y) → Chg (· = b) w w' → wpList P ops Q rest (a.put o.dst undef) w') : wpList P ops Q (o :: rest) a w := by
  refine wpList_plain hg fun K hK => ?_
  obtain ⟨w', hrun, h1, h2⟩ := run_put KL ht h hG k y
  unfold Oper.wp
  simp [execOp, hop, hm, hx, hv, hrun, Result.andThen]
  exact hK _ _ (hK' w' h1 h2)
/-- How many are still to come. -/
def itLeft (w : World) (r b : Nat) : Nat := match w.heap[r]?, w.heap[b]? with
  | some (.mapIter _ _ seen _), some (.map es _) => (leftOf es seen).size
  | _, _ => 0
theorem IterL.count {w : World} {r b : Nat} {l : List (κ × ν)} (h : IterL ek ev w r b l) : itLeft w r b = l.length := by
  obtain ⟨seen, c, es, h1, h2, _, _, h5⟩ := h.ex
  unfold itLeft
  rw [h1, h2]
  have := congrArg List.length h5
  simpa using this
end
end Go.Proofs.Ytmopadnkjlodnaa
namespace Go.Proofs.Ytmopadnkjlodnaa
open Go.RowKit Go.BigFrame
attribute [local go_sem] Later.cell Later.frozen Lat.cell Lat.frozen run_makeMap_plain
/-- The spans of some visits. -/
structure Ex where
  dl : Int
  dh : Int
  tl : Int
  th : Int
  some : Bool
def Ex.cells (x : Ex) : Array Value := #[.int .i64 x.dl, .int .i64 x.dh, .int .i64 x.tl, .int .i64 x.th, .bool x.some]
def Ex.agg (x : Ex) : Value := .agg x.cells
def addX (x : Ex) (d t : Int) : Ex := if x.some = true then ⟨min x.dl d, max x.dh d, min x.tl t, max x.th t, true⟩ else ⟨d, d, t, t, true⟩
inductive Sp
  | d
  | t
  deriving DecidableEq
def spK (k : Nat) : Sp → Value
  | .d => .pointer (some ⟨k, 0, none⟩)
  | .t => .pointer (some ⟨k, 2, none⟩)
def isCells (k : Nat) (w : World) : Prop := ∃ cs t, w.heap[k]? = some (.cells cs t (0, 0))
theorem isCells.of {w : World} {k : Nat} {cs : Array Value} (h : Blk w k cs) : isCells k w := let ⟨t, h⟩ := h; ⟨cs, t, h⟩
theorem keyL_span (k : Nat) : KeyL Try.prog 190 (spK k) (isCells k) := by
  have hp : Try.prog.underlying 190 = some (.pointer 43) := by kernel_rfl
  obtain ⟨j, hj, hs⟩ : ∃ j, Try.prog.info? 43 = some j ∧ j.size ≠ 0 := by
    have : (Try.prog.info? 43).map (·.size) = some 2 := by kernel_rfl
    cases h : Try.prog.info? 43 with
    | none => rw [h] at this; cases this
    | some j => rw [h] at this; exact ⟨j, rfl, by simp at this; omega⟩
  have heq : ∀ (d : Nat) (a b : Sp) (w : World), isCells k w → (Op.equalIn (d + 1) 190 (spK k a) (spK k b)).run Try.prog w = .ok (decide (a = b)) w := by
    rintro d a b w ⟨cs, t, hb⟩
    cases a <;> cases b
    · simp [spK, Op.equalIn, run_underlying hp, sizeOf, typeInfo, hj, run_sameAddr_same]
    · simp [spK, Op.equalIn, run_underlying hp, sizeOf, typeInfo, hj, hs, run_sameAddr_other w (a := ⟨k, 0, none⟩) (b := ⟨k, 2, none⟩) (by simp) hb hb]
    · simp [spK, Op.equalIn, run_underlying hp, sizeOf, typeInfo, hj, hs, run_sameAddr_other w (a := ⟨k, 2, none⟩) (b := ⟨k, 0, none⟩) (by simp) hb hb]
    · simp [spK, Op.equalIn, run_underlying hp, sizeOf, typeInfo, hj, run_sameAddr_same]
  refine ⟨fun a es w => ?_, fun em a w => ?_, fun a b w hw => ?_, fun a => ?_⟩
  · cases es with
    | nil => simp [Instr.findKey, run_underlying hp, Instr.findNow, Instr.findAsking]
    | cons e es => cases a <;> simp [spK, Instr.findKey, run_underlying hp, Instr.findNow, Instr.sameNow]
  · have key : ∀ n, (Instr.checkKey em (n + 1) 190 (spK k a)).run Try.prog w = .ok () w := fun n => by cases a <;> simp [spK, Instr.checkKey, run_underlying hp]
    exact key 9999
  · simp only [Op.equal, Op.maxDepth]
    exact heq 9999 a b w hw
  · cases a <;> exact beq_self_eq_true (α := Option Addr) _
theorem under_spans : Try.prog.underlying 191 = some (.map 190 3) := by kernel_rfl
/-- A map of one's own, whose keys and elements are just those of S. -/
def Res.mapS {κ ν : Type} (ek : κ → Value) (ev : ν → Value) (b : Nat) (S : κ × ν → Prop) : Res :=
  ⟨fun k => k = b, fun w => ∃ l, MapL ek ev w b l ∧ ∀ y, y ∈ l ↔ S y, fun _ _ h ⟨l, hl, hs⟩ => ⟨l, hl.same (h b rfl), hs⟩⟩
def Res.iterS {κ ν : Type} (ek : κ → Value) (ev : ν → Value) (r b : Nat) (S : κ × ν → Prop) : Res :=
  ⟨fun k => k = r ∨ k = b, fun w => ∃ l, IterL ek ev w r b l ∧ (l.map (fun z : κ × ν => z.1)).Nodup ∧ ∀ y, y ∈ l ↔ S y, fun _ _ h ⟨l, hl, hn, hs⟩ => ⟨l, hl.same (h r (.inl rfl)) (h b (.inr rfl)), hn, hs⟩⟩
def mapAt : Value → Nat
  | .map (some k) => k
  | _ => 0
def Lik.map : Lik := ⟨true, fun v => ∃ k, v = .map (some k), .map (some 0), ⟨_, rfl⟩⟩
theorem mem_put {κ ν : Type} [DecidableEq κ] {l : List (κ × ν)} (hn : (l.map (·.1)).Nodup) (k : κ) (v : ν) (y : κ × ν) : y ∈ putL l k v ↔ y = (k, v) ∨ (y ∈ l ∧ y.1 ≠ k) := by
  have h2 := putL_nodup hn k v
  constructor
  · intro h
    have h3 : lookL (putL l k v) y.1 = some y.2 := lookL_of_mem h2 h
    rw [lookL_put hn] at h3
    split at h3
    · rename_i e
      cases h3
      exact .inl (Prod.ext e rfl)
    · rename_i e
      exact .inr ⟨lookL_mem h3, e⟩
  · rintro (rfl | ⟨h, hk⟩)
    · exact lookL_mem (by rw [lookL_put hn, if_pos rfl])
    · exact lookL_mem (k := y.1) (v := y.2) (by rw [lookL_put hn, if_neg hk]; exact lookL_of_mem hn h)
theorem Closed.on {ops : Array Oper} {L : Nat → Bool} (hc : Closed ops L) {i j : Nat} (f : Nat) (hj : L j = true) (h : reach ops i f j = true) : L i = true := by
  cases hi : L i
  · have := hc.off hi f j h; rw [hj] at this; cases this
  · rfl
theorem Chg.near {S : Nat → Prop} {a b c : World} (h : Chg S a b) (k : Chg (fun j => S j ∨ b.heap.size ≤ j) b c) : Chg S a c :=
  ⟨k.os.trans h.os, k.tape.trans h.tape, k.output.trans h.output, Nat.le_trans h.size k.size, fun i hi hs => (k.block i (Nat.lt_of_lt_of_le hi h.size) (fun e => by rcases e with e | e; exact hs e; have := h.size; omega)).trans (h.block i hi hs)⟩
theorem left_mid {κ ν : Type} {pre post : List (κ × ν)} {x : κ} {y : ν} (hn : ((pre ++ (x, y) :: post).map (fun z : κ × ν => z.1)).Nodup) : ((pre ++ post).map (fun z : κ × ν => z.1)).Nodup ∧ ∀ q, q ∈ pre ++ post ↔ q ∈ pre ++ (x, y) :: post ∧ q.1 ≠ x := by
  rw [List.map_append, List.map_cons] at hn
  obtain ⟨h1, h2, h3⟩ := List.nodup_append.1 hn
  rw [List.nodup_cons] at h2
  refine ⟨?_, fun q => ?_⟩
  · rw [List.map_append]
    exact List.nodup_append.2 ⟨h1, h2.2, fun a ha b hb => h3 a ha b (List.mem_cons_of_mem _ hb)⟩
  · simp only [List.mem_append, List.mem_cons]
    constructor
    · rintro (h | h)
      · exact ⟨.inl h, fun e => h3 q.1 (List.mem_map.2 ⟨q, h, rfl⟩) x (by simp) e⟩
      · exact ⟨.inr (.inr h), fun e => h2.1 (e ▸ List.mem_map.2 ⟨q, h, rfl⟩)⟩
    · rintro ⟨h | rfl | h, hq⟩
      · exact .inl h
      · exact absurd rfl hq
      · exact .inr h
def exR (a b : Int) (j : Nat) (v : Value) : Prop := (j = 5 → v = .int .i64 a) ∧ (j = 11 → v = .int .i64 b)
def spS (d t : Int) (p q : Bool) (y : Sp × Int) : Prop := (p = true ∧ y = (Sp.d, d)) ∨ (q = true ∧ y = (Sp.t, t))
set_option maxRecDepth 100000 in
set_option maxHeartbeats 4000000 in
theorem mean_extAdd (k : Nat) (x : Ex) (d t : Int) (w : World) (hb : Blk w k x.cells) :
    Calls Try.prog 95 #[.pointer (some ⟨k, 0, none⟩), .int .i64 d, .int .i64 t] w fun e w' => e = .returned (.tuple #[]) ∧ Blk w' k (addX x d t).cells ∧ Chg (· = k) w w' := by
  obtain ⟨q, hq⟩ : ∃ q, addX x d t = q := ⟨_, rfl⟩
  have HQ := Lib.hid hq
  rw [hq]
  -- behind the first lines: the spans, and that there are some
  have HY : Hid (∃ y : Ex, y.some = true ∧ addX y d t = q ∧ (if x.some = true then y = x else y = ⟨d, d, t, t, true⟩)) := Lib.hid (by
    by_cases h : x.some = true
    · exact ⟨x, h, hq, by rw [if_pos h]⟩
    · exact ⟨⟨d, d, t, t, true⟩, rfl, by rw [← hq]; unfold addX; rw [if_pos rfl, if_neg h]; simp [Int.min_self, Int.max_self], by rw [if_neg h]⟩)
  obtain ⟨y, hy1, hy2, hy3⟩ := HY.out
  have HY2 := Lib.hid hy2
  obtain ⟨dl, dh, tl, th, so⟩ := x
  unfold Ex.cells at hb ⊢
  simp only at hb hy3 HQ ⊢
  have HB := Lib.hid hb
  clear hq hb HY hy2
  go_enter Try.func95, Try.ntmps95
  have c0 := HB.out.cell 0 (v := .int .i64 dl) rfl
  have c1 := HB.out.cell 1 (v := .int .i64 dh) rfl
  have c2 := HB.out.cell 2 (v := .int .i64 tl) rfl
  have c3 := HB.out.cell 3 (v := .int .i64 th) rfl
  have c4 := HB.out.cell 4 (v := .bool so) rfl
  have f0 := HB.out.frozen 0
  have f1 := HB.out.frozen 1
  have f2 := HB.out.frozen 2
  have f3 := HB.out.frozen 3
  have hl := HB.out.lt
  obtain ⟨yl, yh, ul, uh, ys⟩ := y
  simp only at hy1 hy3
  subst hy1
  go_upto_if 12 with fail
  go_cut [] from 13 to 26 (fun wx => Blk wx k #[.int .i64 yl, .int .i64 yh, .int .i64 ul, .int .i64 uh, .bool so] ∧ Chg (· = k) w wx)
  case first =>
    cases so
    · rw [if_neg (by simp)] at hy3
      obtain ⟨rfl, rfl, rfl, rfl⟩ : yl = d ∧ yh = d ∧ ul = t ∧ uh = t := by simpa using hy3
      go_wp2
      go_meet
      exact ⟨by have := (((HB.out.set 0 (.int .i64 yh)).set 1 (.int .i64 yh)).set 2 (.int .i64 uh)).set 3 (.int .i64 uh); simpa using this, ((((Chg.refl (· = k) w).setCell (p := ⟨k, 0, none⟩) (.inr rfl) _).setCell (p := ⟨k, 1, none⟩) (.inr rfl) _).setCell (p := ⟨k, 2, none⟩) (.inr rfl) _).setCell (p := ⟨k, 3, none⟩) (.inr rfl) _⟩
    · rw [if_pos rfl] at hy3
      obtain ⟨rfl, rfl, rfl, rfl⟩ : yl = dl ∧ yh = dh ∧ ul = tl ∧ uh = th := by simpa using hy3
      go_wp2
      go_meet
      exact ⟨HB.out, Chg.refl _ _⟩
  case rest =>
  obtain ⟨hbk, hch⟩ := hcut
  rename_i K0 b0
  refine b0 _ _ ?_
  have HBK := Lib.hid hbk
  have HCH := Lib.hid hch
  have f4 := hbk.frozen 4
  have c4' := hbk.cell 4 (v := .bool so) rfl
  have hl2 := hbk.lt
  clear hbk hch hy3 c0 c1 c2 c3 c4 f0 f1 f2 f3 hl HB HQ
  go_upto_region 3 with fail
  have hb2 := HBK.out.set 4 (.bool true)
  have hc2 := HCH.out.setCell (p := ⟨k, 4, none⟩) (.inr rfl) (.bool true)
  obtain ⟨w2, hw2⟩ : ∃ z, z = wc.setCell ⟨k, 4, none⟩ (.bool true) := ⟨_, rfl⟩
  rw [← hw2] at hb2 hc2 ⊢
  have HB2 : Hid (Blk w2 k #[.int .i64 yl, .int .i64 yh, .int .i64 ul, .int .i64 uh, .bool true]) := Lib.hid hb2
  have HC2 := Lib.hid hc2
  have hl3 := hb2.lt
  clear hw2 hb2 hc2 HBK HCH f4 hl2 c4'
  refine wp_region_calls (by kernel_rfl) [Lik.map, .no, .no, .no, .no, .no, .any, .no, .no, .no, .no, .no, .any, .no, .ptr] w2.heap.size (fun (c : Unit) => 0)
    (fun (c : Unit) L u => [bif L 14 then Res.iterS (spK k) (Value.int .i64) (ptrAt (u 14)) (mapAt (u 0)) (spS d t (L 6) (L 12)) else bif L 0 then Res.mapS (spK k) (Value.int .i64) (mapAt (u 0)) (spS d t (L 6) (L 12)) else Res.none])
    () (by kernel_rfl) (Nat.le_of_ble_eq_true rfl) (fun c L L' u hh => by simp only [hh 0 rfl, hh 14 rfl, hh 6 rfl, hh 12 rfl]) (by simp) (fun _ => Frm.nones _ 1 w2) ?_
  intro T hT hne u hu
  obtain ⟨m, u0⟩ : ∃ m, u 0 = .map (some m) := hu 0 rfl
  obtain ⟨r, u14⟩ : ∃ r, u 14 = .pointer (some ⟨r, 0, none⟩) := hu 14 rfl
  clear hu
  refine lx_loud (by rfl) (by kernel_rfl) ?_ (fun K hK => ?_)
  · intro L w3 hL hd hcl hC hs
    obtain ⟨z, rfl⟩ := hC
    obtain ⟨c, hmc, hs⟩ := hs
    have hzs := z.size
    have h14 := hcl.off hL 40 14 (by kernel_rfl)
    have h6 := hcl.off hL 40 6 (by kernel_rfl)
    have h12 := hcl.off hL 40 12 (by kernel_rfl)
    simp only [hL, h14, cond_false] at hs
    have HS := Lib.hid hs
    clear hs
    go_wp2
    refine lik_set z (Nat.le_refl _) ⟨_, rfl⟩ HS.out 0 (r' := Res.mapS (spK k) (Value.int .i64) z.world.heap.size (spS d t false false)) rfl (((Ext.refl z.world).alloc _).chg _) ⟨[], MapL.made _, fun y => by simp [spS]⟩ (fun j hj => .inr (by rw [show j = z.world.heap.size from hj]; simp)) c hmc ?_
    simp [upd, updv, hL, h14, h6, h12, mapAt]
    rfl
  rw [u0]
  go_simp
  with_reducible refine hK _ ?_
  clear hK K
  refine lx_next 5 (by rfl) (by decide) ?_
  dsimp only [List.take, List.drop]
  repeat (go_big_quiet_step (fail))
  refine wpQuiet_nil ?_
  refine lx_loud (by rfl) (by kernel_rfl) ?_ (fun K hK => ?_)
  · intro L w3 hL hd hcl hC hs
    obtain ⟨z, rfl⟩ := hC
    obtain ⟨c, hmc, hs⟩ := hs
    have hzs := z.size
    have h0 := hd 0 (by kernel_rfl)
    have h14 := hcl.off hL 40 14 (by kernel_rfl)
    simp only [hL, h0, h14, cond_false, cond_true] at hs
    rw [u0] at hs
    obtain ⟨l, hl0, hls⟩ : ∃ l, MapL (spK k) (Value.int .i64) z.world m l ∧ ∀ y, y ∈ l ↔ spS d t (false) (L 12) y := hs.get 0 rfl
    have hG : isCells k z.world := isCells.of (HB2.out.chg z.chg (by rintro ⟨_, h⟩; omega))
    obtain ⟨w', hrun, hm', hc'⟩ := run_put (keyL_span k) under_spans hl0 hG Sp.d d
    simp only [spK] at hrun
    have hmem := mem_put hl0.nodup Sp.d d
    have HS := Lib.hid hs
    have HM := Lib.hid hm'
    have HCC := Lib.hid hc'
    have HLS : Hid (∀ y, y ∈ putL l Sp.d d ↔ spS d t (true) (L 12) y) := Lib.hid (fun y => by
      rw [hmem y, hls y]
      unfold spS
      obtain ⟨y1, y2⟩ := y
      cases y1 <;> simp)
    clear hs hls hm' hc' hmem hl0 hG
    go_wp2
    refine lik_set z (Nat.le_refl _) trivial HS.out 0 (r' := Res.mapS (spK k) (Value.int .i64) m (spS d t (true) (L 12))) rfl (HCC.out.mono fun j _ h => h) ⟨_, HM.out, HLS.out⟩ (fun j hj => .inl hj) c hmc (by first | (simp [upd, updv, hL, h0, h14, u0, mapAt]; done) | (simp [upd, updv, hL, h0, h14, u0, mapAt]; rfl))
  go_simp
  with_reducible refine hK _ ?_
  clear hK K
  refine lx_next 5 (by rfl) (by decide) ?_
  dsimp only [List.take, List.drop]
  repeat (go_big_quiet_step (fail))
  refine wpQuiet_nil ?_
  refine lx_loud (by rfl) (by kernel_rfl) ?_ (fun K hK => ?_)
  · intro L w3 hL hd hcl hC hs
    obtain ⟨z, rfl⟩ := hC
    obtain ⟨c, hmc, hs⟩ := hs
    have hzs := z.size
    have h0 := hd 0 (by kernel_rfl)
    have h14 := hcl.off hL 40 14 (by kernel_rfl)
    simp only [hL, h0, h14, cond_false, cond_true] at hs
    rw [u0] at hs
    obtain ⟨l, hl0, hls⟩ : ∃ l, MapL (spK k) (Value.int .i64) z.world m l ∧ ∀ y, y ∈ l ↔ spS d t (L 6) (false) y := hs.get 0 rfl
    have hG : isCells k z.world := isCells.of (HB2.out.chg z.chg (by rintro ⟨_, h⟩; omega))
    obtain ⟨w', hrun, hm', hc'⟩ := run_put (keyL_span k) under_spans hl0 hG Sp.t t
    simp only [spK] at hrun
    have hmem := mem_put hl0.nodup Sp.t t
    have HS := Lib.hid hs
    have HM := Lib.hid hm'
    have HCC := Lib.hid hc'
    have HLS : Hid (∀ y, y ∈ putL l Sp.t t ↔ spS d t (L 6) (true) y) := Lib.hid (fun y => by
      rw [hmem y, hls y]
      unfold spS
      obtain ⟨y1, y2⟩ := y
      cases y1 <;> simp)
    clear hs hls hm' hc' hmem hl0 hG
    go_wp2
    refine lik_set z (Nat.le_refl _) trivial HS.out 0 (r' := Res.mapS (spK k) (Value.int .i64) m (spS d t (L 6) (true))) rfl (HCC.out.mono fun j _ h => h) ⟨_, HM.out, HLS.out⟩ (fun j hj => .inl hj) c hmc (by first | (simp [upd, updv, hL, h0, h14, u0, mapAt]; done) | (simp [upd, updv, hL, h0, h14, u0, mapAt]; rfl))
  go_simp
  with_reducible refine hK _ ?_
  clear hK K
  refine lx_next 1 (by rfl) (by decide) ?_
  dsimp only [List.take, List.drop]
  repeat (go_big_quiet_step (fail))
  refine wpQuiet_nil ?_
  refine lx_loud (by rfl) (by kernel_rfl) ?_ (fun K hK => ?_)
  · intro L w3 hL hd hcl hC hs
    obtain ⟨z, rfl⟩ := hC
    obtain ⟨c, hmc, hs⟩ := hs
    have hzs := z.size
    have h0 := hcl.on 40 (hd 13 (by kernel_rfl)) (j := 13) (i := 0) (by kernel_rfl)
    have h6 := hcl.on 40 (hd 13 (by kernel_rfl)) (j := 13) (i := 6) (by kernel_rfl)
    have h12 := hcl.on 40 (hd 13 (by kernel_rfl)) (j := 13) (i := 12) (by kernel_rfl)
    simp only [hL, h0, h6, h12, cond_false, cond_true] at hs
    rw [u0] at hs
    obtain ⟨l, hl0, hls⟩ : ∃ l, MapL (spK k) (Value.int .i64) z.world m l ∧ ∀ y, y ∈ l ↔ spS d t true true y := hs.get 0 rfl
    obtain ⟨ob, hrun, hit⟩ := run_rangeL (P := Try.prog) under_spans hl0
    have HS := Lib.hid hs
    have HIT := Lib.hid hit
    have HLS := Lib.hid hls
    have HND := Lib.hid hl0.nodup
    clear hs hls hit hl0
    go_wp2
    refine lik_set z (Nat.le_refl _) ⟨_, rfl⟩ HS.out 0 (r' := Res.iterS (spK k) (Value.int .i64) z.world.heap.size m (spS d t true true)) rfl (((Ext.refl z.world).alloc _).chg _) ⟨l, HIT.out, HND.out, HLS.out⟩ (fun j hj => by rcases hj with rfl | rfl; exact .inr (by simp); exact .inl rfl) c hmc (by first | (simp [upd, updv, hL, h0, h6, h12, u0, mapAt, ptrAt]; done) | (simp [upd, updv, hL, h0, h6, h12, u0, mapAt, ptrAt]; rfl))
  rw [u14]
  go_simp
  with_reducible refine hK _ ?_
  clear hK K
  refine lx_nil ?_
  intro z hs
  obtain ⟨c, hmc, hs⟩ := hs
  rw [u0, u14] at hs
  obtain ⟨l0, hit, hnd, hls⟩ : ∃ l, IterL (spK k) (Value.int .i64) z.world r m l ∧ (l.map (fun z : Sp × Int => z.1)).Nodup ∧ ∀ y, y ∈ l ↔ spS d t true true y := hs.get 0 rfl
  have hrm := hs.lt 0 rfl
  have hr1 := (hrm r (.inl rfl)).1
  have hm1 := (hrm m (.inr rfl)).1
  have hXz : Ext w2 z.world := Chg.to_ext (Ext.refl w2) z.chg (by rintro i ⟨_, h⟩; exact h)
  have HIT := Lib.hid hit
  have HND := Lib.hid hnd
  have HLS := Lib.hid hls
  have HBZ := Lib.hid (HB2.out.ext hXz)
  have HCZ := Lib.hid (HC2.out.ext' hXz)
  have HSZ := Lib.hid (HC2.out.size)
  have HXZ := Lib.hid hXz
  clear hs hmc hT hne u0 u14 hit hnd hls hrm hXz
  generalize z.world = w3 at *
  have hrk : ¬ r = k := by omega
  have hmk : ¬ m = k := by omega
  have hlb := HBZ.out.lt
  go_wp2
  go_loopw [6] (fun _ wr => ∃ left dn tn, IterL (spK k) (Value.int .i64) wr r m left ∧ (left.map (fun z : Sp × Int => z.1)).Nodup ∧ (∀ y, y ∈ left ↔ spS d t (!dn) (!tn) y) ∧ Blk wr k #[.int .i64 (bif dn then min yl d else yl), .int .i64 (bif dn then max yh d else yh), .int .i64 (bif tn then min ul t else ul), .int .i64 (bif tn then max uh t else uh), .bool true] ∧ Chg (fun j => j = k ∨ w2.heap.size ≤ j) w2 wr) (fun _ wr => itLeft wr r m)
  case atStart => exact ⟨l0, false, false, HIT.out, HND.out, HLS.out, HBZ.out, HXZ.out.chg _⟩
  case round =>
    obtain ⟨left, dn, tn, hit, hnd, hls, hb, hc⟩ := hrel
    have HIT := Lib.hid hit
    have HND := Lib.hid hnd
    have HLS := Lib.hid hls
    have HB := Lib.hid hb
    have HC := Lib.hid hc
    clear hit hnd hls hb hc
    have hbl := HB.out.lt
    go_wp2_with (at_next; refine wp_nextL rfl _ rfl r m left rfl HIT.out ?_ ?_)
    · rintro rfl
      have h1 := (HLS.out (Sp.d, d)).2
      have h2 := (HLS.out (Sp.t, t)).2
      have hdn : dn = true := by cases dn; exact absurd (h1 (.inl ⟨rfl, rfl⟩)) (by simp); rfl
      have htn : tn = true := by cases tn; exact absurd (h2 (.inr ⟨rfl, rfl⟩)) (by simp); rfl
      subst hdn htn
      clear h1 h2
      go_wp2
      refine bodyPost_end (results_none rfl _ _ _) rfl ⟨rfl, ?_, ?_⟩
      · have hb := HB.out
        rw [← HY2.out]
        unfold addX
        rw [if_pos rfl]
        exact hb
      · exact HC2.out.near HC.out
    · intro x y pre post w5 hsp hit5 hc5 hen
      have hmem : (x, y) ∈ left := by rw [hsp]; simp
      have hin := (HLS.out _).1 hmem
      have hnd := HND.out
      rw [hsp] at hnd
      obtain ⟨hn2, hq2⟩ := left_mid hnd
      rw [← hsp] at hq2
      have HN2 := Lib.hid hn2
      have HQ2 := Lib.hid hq2
      have HIT5 := Lib.hid hit5
      have HBQ := HB.out.chg hc5 (fun e => hrk e.symm)
      have HC6 := Lib.hid (HC.out.trans (hc5.mono (T := fun j => j = k ∨ w2.heap.size ≤ j) (fun j _ e => .inr (by rw [show j = r from e]; omega))))
      have hcnt := HIT.out.count
      have hcn5 := hit5.count
      have hlen : left.length = (pre ++ post).length + 1 := by rw [hsp]; simp; omega
      have HLEN : Hid (itLeft w5 r m < itLeft wr r m) := Lib.hid (by rw [hcnt, hcn5, hlen]; omega)
      have hl5 := HBQ.lt
      clear hmem hnd hn2 hq2 hit5 hcnt hcn5 hlen hsp hbl hc5
      unfold spS at hin
      cases x
      · obtain ⟨h1, h2⟩ : (!dn) = true ∧ y = d := by simpa using hin
        obtain rfl : dn = false := by simpa using h1
        have h3 := h2.symm
        subst h3
        clear h1 h2 hin
        simp only [spK] at hen
        have HBQ' : Hid (Blk w5 k #[.int .i64 yl, .int .i64 yh, .int .i64 (bif tn then min ul t else ul), .int .i64 (bif tn then max uh t else uh), .bool true]) := Lib.hid HBQ
        obtain ⟨p2, hp2⟩ : ∃ p, (bif tn then min ul t else ul) = p := ⟨_, rfl⟩
        obtain ⟨p3, hp3⟩ : ∃ p, (bif tn then max uh t else uh) = p := ⟨_, rfl⟩
        rw [hp2, hp3] at HBQ'
        have HP2 := Lib.hid hp2
        have HP3 := Lib.hid hp3
        clear hp2 hp3 HBQ
        by_cases hlo : yl ≤ d
        case pos =>
          by_cases hhi : d ≤ yh
          case pos =>
            go_upto_region 6 with fail
            refine wp_region_lat (by kernel_rfl) (fun b o => b = k ∧ (o = 0 ∨ o = 1)) (fun j => j == 5 || (j == 11 || (j == 16 || j == 19))) (exR yl yh) (fun L _ w' => Blk w' k #[.int .i64 (bif L 16 then yl else yl), .int .i64 (bif L 19 then yh else yh), .int .i64 p2, .int .i64 p3, .bool true])
              (by kernel_rfl) (fun j hj => by simp at hj; rcases hj with rfl | rfl | rfl | rfl <;> decide) (fun L L' _ _ hh hb => by rw [hh 16 rfl, hh 19 rfl]; exact hb) (fun L _ w' w'' hb hx => hb.ext hx)
              (fun j => if j = 5 then .int .i64 yl else .int .i64 yh) (fun j _ => ⟨fun e => by subst e; rfl, fun e => by subst e; rfl⟩) HBQ'.out.drew ?_
            intro T hT hne u hu
            have u5 : u 5 = .int .i64 yl := (hu 5 rfl).1 rfl
            have u11 : u 11 = .int .i64 yh := (hu 11 rfl).2 rfl
            clear hu
            refine lx_next 5 (by rfl) (by decide) ?_
            dsimp only [List.take, List.drop]
            repeat (go_big_quiet_step (fail))
            refine wpQuiet_nil ?_
            refine lx_loud (by rfl) (by kernel_rfl) ?_ (fun K hK => ?_)
            · intro L w3 hL hd hcl hC hs
              obtain ⟨z, rfl⟩ := hC
              have h16 := hcl.off hL 40 16 (by kernel_rfl)
              have h19 := hcl.off hL 40 19 (by kernel_rfl)
              have hbb : Blk z.world k #[.int .i64 (bif L 16 then yl else yl), .int .i64 (bif L 19 then yh else yh), .int .i64 p2, .int .i64 p3, .bool true] := hs
              have HS := Lib.hid hbb
              simp only [h16, h19, cond_false] at hbb
              have q0 := hbb.cell 0 (v := .int .i64 yl) rfl
              have ql := hbb.lt
              clear hs hbb
              go_wp2
              exact ⟨⟨(fun e => by first | rfl | cases e), (fun e => by first | rfl | cases e)⟩, ⟨z, rfl⟩, by have := HS.out; simpa [upd] using this⟩
            rw [u5]
            go_simp
            with_reducible refine hK _ ?_
            clear hK K
            refine lx_next 5 (by rfl) (by decide) ?_
            dsimp only [List.take, List.drop]
            repeat (go_big_quiet_step (fail))
            refine wpQuiet_nil ?_
            refine lx_loud (by rfl) (by kernel_rfl) ?_ (fun K hK => ?_)
            · intro L w3 hL hd hcl hC hs
              obtain ⟨z, rfl⟩ := hC
              have h16 := hcl.off hL 40 16 (by kernel_rfl)
              have h19 := hcl.off hL 40 19 (by kernel_rfl)
              have hbb : Blk z.world k #[.int .i64 (bif L 16 then yl else yl), .int .i64 (bif L 19 then yh else yh), .int .i64 p2, .int .i64 p3, .bool true] := hs
              have HS := Lib.hid hbb
              simp only [h16, h19, cond_false] at hbb
              have q0 := hbb.cell 1 (v := .int .i64 yh) rfl
              have ql := hbb.lt
              clear hs hbb
              go_wp2
              exact ⟨⟨(fun e => by first | rfl | cases e), (fun e => by first | rfl | cases e)⟩, ⟨z, rfl⟩, by have := HS.out; simpa [upd] using this⟩
            rw [u11]
            go_simp
            with_reducible refine hK _ ?_
            clear hK K
            refine lx_next 4 (by rfl) (by decide) ?_
            dsimp only [List.take, List.drop]
            repeat (go_big_quiet_step (fail))
            refine wpQuiet_nil ?_
            refine lx_loud (by rfl) (by kernel_rfl) ?_ (fun K hK => ?_)
            · intro L w3 hL hd hcl hC hs
              obtain ⟨z, rfl⟩ := hC
              have hbb : Blk z.world k #[.int .i64 (bif L 16 then yl else yl), .int .i64 (bif L 19 then yh else yh), .int .i64 p2, .int .i64 p3, .bool true] := hs
              have f0 := hbb.frozen 0
              have q0 := hbb.cell 0 rfl
              have ql := hbb.lt
              have HS := Lib.hid hbb
              have HL := Lib.hid hL
              clear hs hbb
              go_wp2
              refine ⟨⟨(fun e => by cases e), (fun e => by cases e)⟩, ⟨z.setCell (.inr ⟨rfl, by simp⟩) _, rfl⟩, ?_⟩
              have hset := HS.out.set 0 (.int .i64 (yl))
              have hL' := HL.out
              simp only [hL', cond_false] at hset
              simpa [upd, hL'] using hset
            go_simp
            with_reducible refine hK _ ?_
            clear hK K
            refine lx_next 2 (by rfl) (by decide) ?_
            dsimp only [List.take, List.drop]
            repeat (go_big_quiet_step (fail))
            refine wpQuiet_nil ?_
            refine lx_loud (by rfl) (by kernel_rfl) ?_ (fun K hK => ?_)
            · intro L w3 hL hd hcl hC hs
              obtain ⟨z, rfl⟩ := hC
              have hbb : Blk z.world k #[.int .i64 (bif L 16 then yl else yl), .int .i64 (bif L 19 then yh else yh), .int .i64 p2, .int .i64 p3, .bool true] := hs
              have f0 := hbb.frozen 1
              have q0 := hbb.cell 1 rfl
              have ql := hbb.lt
              have HS := Lib.hid hbb
              have HL := Lib.hid hL
              clear hs hbb
              go_wp2
              refine ⟨⟨(fun e => by cases e), (fun e => by cases e)⟩, ⟨z.setCell (.inr ⟨rfl, by simp⟩) _, rfl⟩, ?_⟩
              have hset := HS.out.set 1 (.int .i64 (yh))
              have hL' := HL.out
              simp only [hL', cond_false] at hset
              simpa [upd, hL'] using hset
            go_simp
            with_reducible refine hK _ ?_
            clear hK K
            refine lx_nil ?_
            intro z hG
            have hG2 : Blk z.world k #[.int .i64 (bif true then yl else yl), .int .i64 (bif true then yh else yh), .int .i64 p2, .int .i64 p3, .bool true] := hG
            simp only [cond_true] at hG2
            have HB5 : Hid (Blk z.world k #[.int .i64 (min yl d), .int .i64 (max yh d), .int .i64 p2, .int .i64 p3, .bool true]) := Lib.hid (by rw [show min yl d = yl by omega, show max yh d = yh by omega]; exact hG2)
            have HC5 := Lib.hid (z.chg.mono (T := fun j => j = k) (fun j _ ⟨_, h⟩ => h.1))
            clear hG hG2 hT hne u5 u11
            generalize z.world = w7 at *
            have HIT7 := Lib.hid (HIT5.out.chg HC5.out hrk hmk)
            have HC7 := Lib.hid (HC6.out.trans (HC5.out.mono fun j _ e => .inl e))
            have HLE7 : Hid (itLeft w7 r m < itLeft wr r m) := Lib.hid (by have h := HLEN.out; rw [HIT5.out.count] at h; rw [HIT7.out.count]; exact h)
            go_wp2
            go_roundw
            case rel =>
              refine ⟨pre ++ post, true, tn, HIT7.out, HN2.out, fun q => ?_, ?_, HC7.out⟩
              · rw [HQ2.out q, HLS.out q]
                unfold spS
                obtain ⟨q1, q2⟩ := q
                cases q1 <;> simp
              · have hb := HB5.out
                rw [← HP2.out, ← HP3.out] at hb
                exact hb
            case measure => exact HLE7.out
          case neg =>
            go_upto_region 6 with fail
            refine wp_region_lat (by kernel_rfl) (fun b o => b = k ∧ (o = 0 ∨ o = 1)) (fun j => j == 5 || (j == 11 || (j == 16 || j == 19))) (exR yl yh) (fun L _ w' => Blk w' k #[.int .i64 (bif L 16 then yl else yl), .int .i64 (bif L 19 then d else yh), .int .i64 p2, .int .i64 p3, .bool true])
              (by kernel_rfl) (fun j hj => by simp at hj; rcases hj with rfl | rfl | rfl | rfl <;> decide) (fun L L' _ _ hh hb => by rw [hh 16 rfl, hh 19 rfl]; exact hb) (fun L _ w' w'' hb hx => hb.ext hx)
              (fun j => if j = 5 then .int .i64 yl else .int .i64 yh) (fun j _ => ⟨fun e => by subst e; rfl, fun e => by subst e; rfl⟩) HBQ'.out.drew ?_
            intro T hT hne u hu
            have u5 : u 5 = .int .i64 yl := (hu 5 rfl).1 rfl
            have u11 : u 11 = .int .i64 yh := (hu 11 rfl).2 rfl
            clear hu
            refine lx_next 5 (by rfl) (by decide) ?_
            dsimp only [List.take, List.drop]
            repeat (go_big_quiet_step (fail))
            refine wpQuiet_nil ?_
            refine lx_loud (by rfl) (by kernel_rfl) ?_ (fun K hK => ?_)
            · intro L w3 hL hd hcl hC hs
              obtain ⟨z, rfl⟩ := hC
              have h16 := hcl.off hL 40 16 (by kernel_rfl)
              have h19 := hcl.off hL 40 19 (by kernel_rfl)
              have hbb : Blk z.world k #[.int .i64 (bif L 16 then yl else yl), .int .i64 (bif L 19 then d else yh), .int .i64 p2, .int .i64 p3, .bool true] := hs
              have HS := Lib.hid hbb
              simp only [h16, h19, cond_false] at hbb
              have q0 := hbb.cell 0 (v := .int .i64 yl) rfl
              have ql := hbb.lt
              clear hs hbb
              go_wp2
              exact ⟨⟨(fun e => by first | rfl | cases e), (fun e => by first | rfl | cases e)⟩, ⟨z, rfl⟩, by have := HS.out; simpa [upd] using this⟩
            rw [u5]
            go_simp
            with_reducible refine hK _ ?_
            clear hK K
            refine lx_next 5 (by rfl) (by decide) ?_
            dsimp only [List.take, List.drop]
            repeat (go_big_quiet_step (fail))
            refine wpQuiet_nil ?_
            refine lx_loud (by rfl) (by kernel_rfl) ?_ (fun K hK => ?_)
            · intro L w3 hL hd hcl hC hs
              obtain ⟨z, rfl⟩ := hC
              have h16 := hcl.off hL 40 16 (by kernel_rfl)
              have h19 := hcl.off hL 40 19 (by kernel_rfl)
              have hbb : Blk z.world k #[.int .i64 (bif L 16 then yl else yl), .int .i64 (bif L 19 then d else yh), .int .i64 p2, .int .i64 p3, .bool true] := hs
              have HS := Lib.hid hbb
              simp only [h16, h19, cond_false] at hbb
              have q0 := hbb.cell 1 (v := .int .i64 yh) rfl
              have ql := hbb.lt
              clear hs hbb
              go_wp2
              exact ⟨⟨(fun e => by first | rfl | cases e), (fun e => by first | rfl | cases e)⟩, ⟨z, rfl⟩, by have := HS.out; simpa [upd] using this⟩
            rw [u11]
            go_simp
            with_reducible refine hK _ ?_
            clear hK K
            refine lx_next 4 (by rfl) (by decide) ?_
            dsimp only [List.take, List.drop]
            repeat (go_big_quiet_step (fail))
            refine wpQuiet_nil ?_
            refine lx_loud (by rfl) (by kernel_rfl) ?_ (fun K hK => ?_)
            · intro L w3 hL hd hcl hC hs
              obtain ⟨z, rfl⟩ := hC
              have hbb : Blk z.world k #[.int .i64 (bif L 16 then yl else yl), .int .i64 (bif L 19 then d else yh), .int .i64 p2, .int .i64 p3, .bool true] := hs
              have f0 := hbb.frozen 0
              have q0 := hbb.cell 0 rfl
              have ql := hbb.lt
              have HS := Lib.hid hbb
              have HL := Lib.hid hL
              clear hs hbb
              go_wp2
              refine ⟨⟨(fun e => by cases e), (fun e => by cases e)⟩, ⟨z.setCell (.inr ⟨rfl, by simp⟩) _, rfl⟩, ?_⟩
              have hset := HS.out.set 0 (.int .i64 (yl))
              have hL' := HL.out
              simp only [hL', cond_false] at hset
              simpa [upd, hL'] using hset
            go_simp
            with_reducible refine hK _ ?_
            clear hK K
            refine lx_next 2 (by rfl) (by decide) ?_
            dsimp only [List.take, List.drop]
            repeat (go_big_quiet_step (fail))
            refine wpQuiet_nil ?_
            refine lx_loud (by rfl) (by kernel_rfl) ?_ (fun K hK => ?_)
            · intro L w3 hL hd hcl hC hs
              obtain ⟨z, rfl⟩ := hC
              have hbb : Blk z.world k #[.int .i64 (bif L 16 then yl else yl), .int .i64 (bif L 19 then d else yh), .int .i64 p2, .int .i64 p3, .bool true] := hs
              have f0 := hbb.frozen 1
              have q0 := hbb.cell 1 rfl
              have ql := hbb.lt
              have HS := Lib.hid hbb
              have HL := Lib.hid hL
              clear hs hbb
              go_wp2
              refine ⟨⟨(fun e => by cases e), (fun e => by cases e)⟩, ⟨z.setCell (.inr ⟨rfl, by simp⟩) _, rfl⟩, ?_⟩
              have hset := HS.out.set 1 (.int .i64 (d))
              have hL' := HL.out
              simp only [hL', cond_false] at hset
              simpa [upd, hL'] using hset
            go_simp
            with_reducible refine hK _ ?_
            clear hK K
            refine lx_nil ?_
            intro z hG
            have hG2 : Blk z.world k #[.int .i64 (bif true then yl else yl), .int .i64 (bif true then d else yh), .int .i64 p2, .int .i64 p3, .bool true] := hG
            simp only [cond_true] at hG2
            have HB5 : Hid (Blk z.world k #[.int .i64 (min yl d), .int .i64 (max yh d), .int .i64 p2, .int .i64 p3, .bool true]) := Lib.hid (by rw [show min yl d = yl by omega, show max yh d = d by omega]; exact hG2)
            have HC5 := Lib.hid (z.chg.mono (T := fun j => j = k) (fun j _ ⟨_, h⟩ => h.1))
            clear hG hG2 hT hne u5 u11
            generalize z.world = w7 at *
            have HIT7 := Lib.hid (HIT5.out.chg HC5.out hrk hmk)
            have HC7 := Lib.hid (HC6.out.trans (HC5.out.mono fun j _ e => .inl e))
            have HLE7 : Hid (itLeft w7 r m < itLeft wr r m) := Lib.hid (by have h := HLEN.out; rw [HIT5.out.count] at h; rw [HIT7.out.count]; exact h)
            go_wp2
            go_roundw
            case rel =>
              refine ⟨pre ++ post, true, tn, HIT7.out, HN2.out, fun q => ?_, ?_, HC7.out⟩
              · rw [HQ2.out q, HLS.out q]
                unfold spS
                obtain ⟨q1, q2⟩ := q
                cases q1 <;> simp
              · have hb := HB5.out
                rw [← HP2.out, ← HP3.out] at hb
                exact hb
            case measure => exact HLE7.out
        case neg =>
          by_cases hhi : d ≤ yh
          case pos =>
            go_upto_region 6 with fail
            refine wp_region_lat (by kernel_rfl) (fun b o => b = k ∧ (o = 0 ∨ o = 1)) (fun j => j == 5 || (j == 11 || (j == 16 || j == 19))) (exR yl yh) (fun L _ w' => Blk w' k #[.int .i64 (bif L 16 then d else yl), .int .i64 (bif L 19 then yh else yh), .int .i64 p2, .int .i64 p3, .bool true])
              (by kernel_rfl) (fun j hj => by simp at hj; rcases hj with rfl | rfl | rfl | rfl <;> decide) (fun L L' _ _ hh hb => by rw [hh 16 rfl, hh 19 rfl]; exact hb) (fun L _ w' w'' hb hx => hb.ext hx)
              (fun j => if j = 5 then .int .i64 yl else .int .i64 yh) (fun j _ => ⟨fun e => by subst e; rfl, fun e => by subst e; rfl⟩) HBQ'.out.drew ?_
            intro T hT hne u hu
            have u5 : u 5 = .int .i64 yl := (hu 5 rfl).1 rfl
            have u11 : u 11 = .int .i64 yh := (hu 11 rfl).2 rfl
            clear hu
            refine lx_next 5 (by rfl) (by decide) ?_
            dsimp only [List.take, List.drop]
            repeat (go_big_quiet_step (fail))
            refine wpQuiet_nil ?_
            refine lx_loud (by rfl) (by kernel_rfl) ?_ (fun K hK => ?_)
            · intro L w3 hL hd hcl hC hs
              obtain ⟨z, rfl⟩ := hC
              have h16 := hcl.off hL 40 16 (by kernel_rfl)
              have h19 := hcl.off hL 40 19 (by kernel_rfl)
              have hbb : Blk z.world k #[.int .i64 (bif L 16 then d else yl), .int .i64 (bif L 19 then yh else yh), .int .i64 p2, .int .i64 p3, .bool true] := hs
              have HS := Lib.hid hbb
              simp only [h16, h19, cond_false] at hbb
              have q0 := hbb.cell 0 (v := .int .i64 yl) rfl
              have ql := hbb.lt
              clear hs hbb
              go_wp2
              exact ⟨⟨(fun e => by first | rfl | cases e), (fun e => by first | rfl | cases e)⟩, ⟨z, rfl⟩, by have := HS.out; simpa [upd] using this⟩
            rw [u5]
            go_simp
            with_reducible refine hK _ ?_
            clear hK K
            refine lx_next 5 (by rfl) (by decide) ?_
            dsimp only [List.take, List.drop]
            repeat (go_big_quiet_step (fail))
            refine wpQuiet_nil ?_
            refine lx_loud (by rfl) (by kernel_rfl) ?_ (fun K hK => ?_)
            · intro L w3 hL hd hcl hC hs
              obtain ⟨z, rfl⟩ := hC
              have h16 := hcl.off hL 40 16 (by kernel_rfl)
              have h19 := hcl.off hL 40 19 (by kernel_rfl)
              have hbb : Blk z.world k #[.int .i64 (bif L 16 then d else yl), .int .i64 (bif L 19 then yh else yh), .int .i64 p2, .int .i64 p3, .bool true] := hs
              have HS := Lib.hid hbb
              simp only [h16, h19, cond_false] at hbb
              have q0 := hbb.cell 1 (v := .int .i64 yh) rfl
              have ql := hbb.lt
              clear hs hbb
              go_wp2
              exact ⟨⟨(fun e => by first | rfl | cases e), (fun e => by first | rfl | cases e)⟩, ⟨z, rfl⟩, by have := HS.out; simpa [upd] using this⟩
            rw [u11]
            go_simp
            with_reducible refine hK _ ?_
            clear hK K
            refine lx_next 4 (by rfl) (by decide) ?_
            dsimp only [List.take, List.drop]
            repeat (go_big_quiet_step (fail))
            refine wpQuiet_nil ?_
            refine lx_loud (by rfl) (by kernel_rfl) ?_ (fun K hK => ?_)
            · intro L w3 hL hd hcl hC hs
              obtain ⟨z, rfl⟩ := hC
              have hbb : Blk z.world k #[.int .i64 (bif L 16 then d else yl), .int .i64 (bif L 19 then yh else yh), .int .i64 p2, .int .i64 p3, .bool true] := hs
              have f0 := hbb.frozen 0
              have q0 := hbb.cell 0 rfl
              have ql := hbb.lt
              have HS := Lib.hid hbb
              have HL := Lib.hid hL
              clear hs hbb
              go_wp2
              refine ⟨⟨(fun e => by cases e), (fun e => by cases e)⟩, ⟨z.setCell (.inr ⟨rfl, by simp⟩) _, rfl⟩, ?_⟩
              have hset := HS.out.set 0 (.int .i64 (d))
              have hL' := HL.out
              simp only [hL', cond_false] at hset
              simpa [upd, hL'] using hset
            go_simp
            with_reducible refine hK _ ?_
            clear hK K
            refine lx_next 2 (by rfl) (by decide) ?_
            dsimp only [List.take, List.drop]
            repeat (go_big_quiet_step (fail))
            refine wpQuiet_nil ?_
            refine lx_loud (by rfl) (by kernel_rfl) ?_ (fun K hK => ?_)
            · intro L w3 hL hd hcl hC hs
              obtain ⟨z, rfl⟩ := hC
              have hbb : Blk z.world k #[.int .i64 (bif L 16 then d else yl), .int .i64 (bif L 19 then yh else yh), .int .i64 p2, .int .i64 p3, .bool true] := hs
              have f0 := hbb.frozen 1
              have q0 := hbb.cell 1 rfl
              have ql := hbb.lt
              have HS := Lib.hid hbb
              have HL := Lib.hid hL
              clear hs hbb
              go_wp2
              refine ⟨⟨(fun e => by cases e), (fun e => by cases e)⟩, ⟨z.setCell (.inr ⟨rfl, by simp⟩) _, rfl⟩, ?_⟩
              have hset := HS.out.set 1 (.int .i64 (yh))
              have hL' := HL.out
              simp only [hL', cond_false] at hset
              simpa [upd, hL'] using hset
            go_simp
            with_reducible refine hK _ ?_
            clear hK K
            refine lx_nil ?_
            intro z hG
            have hG2 : Blk z.world k #[.int .i64 (bif true then d else yl), .int .i64 (bif true then yh else yh), .int .i64 p2, .int .i64 p3, .bool true] := hG
            simp only [cond_true] at hG2
            have HB5 : Hid (Blk z.world k #[.int .i64 (min yl d), .int .i64 (max yh d), .int .i64 p2, .int .i64 p3, .bool true]) := Lib.hid (by rw [show min yl d = d by omega, show max yh d = yh by omega]; exact hG2)
            have HC5 := Lib.hid (z.chg.mono (T := fun j => j = k) (fun j _ ⟨_, h⟩ => h.1))
            clear hG hG2 hT hne u5 u11
            generalize z.world = w7 at *
            have HIT7 := Lib.hid (HIT5.out.chg HC5.out hrk hmk)
            have HC7 := Lib.hid (HC6.out.trans (HC5.out.mono fun j _ e => .inl e))
            have HLE7 : Hid (itLeft w7 r m < itLeft wr r m) := Lib.hid (by have h := HLEN.out; rw [HIT5.out.count] at h; rw [HIT7.out.count]; exact h)
            go_wp2
            go_roundw
            case rel =>
              refine ⟨pre ++ post, true, tn, HIT7.out, HN2.out, fun q => ?_, ?_, HC7.out⟩
              · rw [HQ2.out q, HLS.out q]
                unfold spS
                obtain ⟨q1, q2⟩ := q
                cases q1 <;> simp
              · have hb := HB5.out
                rw [← HP2.out, ← HP3.out] at hb
                exact hb
            case measure => exact HLE7.out
          case neg =>
            go_upto_region 6 with fail
            refine wp_region_lat (by kernel_rfl) (fun b o => b = k ∧ (o = 0 ∨ o = 1)) (fun j => j == 5 || (j == 11 || (j == 16 || j == 19))) (exR yl yh) (fun L _ w' => Blk w' k #[.int .i64 (bif L 16 then d else yl), .int .i64 (bif L 19 then d else yh), .int .i64 p2, .int .i64 p3, .bool true])
              (by kernel_rfl) (fun j hj => by simp at hj; rcases hj with rfl | rfl | rfl | rfl <;> decide) (fun L L' _ _ hh hb => by rw [hh 16 rfl, hh 19 rfl]; exact hb) (fun L _ w' w'' hb hx => hb.ext hx)
              (fun j => if j = 5 then .int .i64 yl else .int .i64 yh) (fun j _ => ⟨fun e => by subst e; rfl, fun e => by subst e; rfl⟩) HBQ'.out.drew ?_
            intro T hT hne u hu
            have u5 : u 5 = .int .i64 yl := (hu 5 rfl).1 rfl
            have u11 : u 11 = .int .i64 yh := (hu 11 rfl).2 rfl
            clear hu
            refine lx_next 5 (by rfl) (by decide) ?_
            dsimp only [List.take, List.drop]
            repeat (go_big_quiet_step (fail))
            refine wpQuiet_nil ?_
            refine lx_loud (by rfl) (by kernel_rfl) ?_ (fun K hK => ?_)
            · intro L w3 hL hd hcl hC hs
              obtain ⟨z, rfl⟩ := hC
              have h16 := hcl.off hL 40 16 (by kernel_rfl)
              have h19 := hcl.off hL 40 19 (by kernel_rfl)
              have hbb : Blk z.world k #[.int .i64 (bif L 16 then d else yl), .int .i64 (bif L 19 then d else yh), .int .i64 p2, .int .i64 p3, .bool true] := hs
              have HS := Lib.hid hbb
              simp only [h16, h19, cond_false] at hbb
              have q0 := hbb.cell 0 (v := .int .i64 yl) rfl
              have ql := hbb.lt
              clear hs hbb
              go_wp2
              exact ⟨⟨(fun e => by first | rfl | cases e), (fun e => by first | rfl | cases e)⟩, ⟨z, rfl⟩, by have := HS.out; simpa [upd] using this⟩
            rw [u5]
            go_simp
            with_reducible refine hK _ ?_
            clear hK K
            refine lx_next 5 (by rfl) (by decide) ?_
            dsimp only [List.take, List.drop]
            repeat (go_big_quiet_step (fail))
            refine wpQuiet_nil ?_
            refine lx_loud (by rfl) (by kernel_rfl) ?_ (fun K hK => ?_)
            · intro L w3 hL hd hcl hC hs
              obtain ⟨z, rfl⟩ := hC
              have h16 := hcl.off hL 40 16 (by kernel_rfl)
              have h19 := hcl.off hL 40 19 (by kernel_rfl)
              have hbb : Blk z.world k #[.int .i64 (bif L 16 then d else yl), .int .i64 (bif L 19 then d else yh), .int .i64 p2, .int .i64 p3, .bool true] := hs
              have HS := Lib.hid hbb
              simp only [h16, h19, cond_false] at hbb
              have q0 := hbb.cell 1 (v := .int .i64 yh) rfl
              have ql := hbb.lt
              clear hs hbb
              go_wp2
              exact ⟨⟨(fun e => by first | rfl | cases e), (fun e => by first | rfl | cases e)⟩, ⟨z, rfl⟩, by have := HS.out; simpa [upd] using this⟩
            rw [u11]
            go_simp
            with_reducible refine hK _ ?_
            clear hK K
            refine lx_next 4 (by rfl) (by decide) ?_
            dsimp only [List.take, List.drop]
            repeat (go_big_quiet_step (fail))
            refine wpQuiet_nil ?_
            refine lx_loud (by rfl) (by kernel_rfl) ?_ (fun K hK => ?_)
            · intro L w3 hL hd hcl hC hs
              obtain ⟨z, rfl⟩ := hC
              have hbb : Blk z.world k #[.int .i64 (bif L 16 then d else yl), .int .i64 (bif L 19 then d else yh), .int .i64 p2, .int .i64 p3, .bool true] := hs
              have f0 := hbb.frozen 0
              have q0 := hbb.cell 0 rfl
              have ql := hbb.lt
              have HS := Lib.hid hbb
              have HL := Lib.hid hL
              clear hs hbb
              go_wp2
              refine ⟨⟨(fun e => by cases e), (fun e => by cases e)⟩, ⟨z.setCell (.inr ⟨rfl, by simp⟩) _, rfl⟩, ?_⟩
              have hset := HS.out.set 0 (.int .i64 (d))
              have hL' := HL.out
              simp only [hL', cond_false] at hset
              simpa [upd, hL'] using hset
            go_simp
            with_reducible refine hK _ ?_
            clear hK K
            refine lx_next 2 (by rfl) (by decide) ?_
            dsimp only [List.take, List.drop]
            repeat (go_big_quiet_step (fail))
            refine wpQuiet_nil ?_
            refine lx_loud (by rfl) (by kernel_rfl) ?_ (fun K hK => ?_)
            · intro L w3 hL hd hcl hC hs
              obtain ⟨z, rfl⟩ := hC
              have hbb : Blk z.world k #[.int .i64 (bif L 16 then d else yl), .int .i64 (bif L 19 then d else yh), .int .i64 p2, .int .i64 p3, .bool true] := hs
              have f0 := hbb.frozen 1
              have q0 := hbb.cell 1 rfl
              have ql := hbb.lt
              have HS := Lib.hid hbb
              have HL := Lib.hid hL
              clear hs hbb
              go_wp2
              refine ⟨⟨(fun e => by cases e), (fun e => by cases e)⟩, ⟨z.setCell (.inr ⟨rfl, by simp⟩) _, rfl⟩, ?_⟩
              have hset := HS.out.set 1 (.int .i64 (d))
              have hL' := HL.out
              simp only [hL', cond_false] at hset
              simpa [upd, hL'] using hset
            go_simp
            with_reducible refine hK _ ?_
            clear hK K
            refine lx_nil ?_
            intro z hG
            have hG2 : Blk z.world k #[.int .i64 (bif true then d else yl), .int .i64 (bif true then d else yh), .int .i64 p2, .int .i64 p3, .bool true] := hG
            simp only [cond_true] at hG2
            have HB5 : Hid (Blk z.world k #[.int .i64 (min yl d), .int .i64 (max yh d), .int .i64 p2, .int .i64 p3, .bool true]) := Lib.hid (by rw [show min yl d = d by omega, show max yh d = d by omega]; exact hG2)
            have HC5 := Lib.hid (z.chg.mono (T := fun j => j = k) (fun j _ ⟨_, h⟩ => h.1))
            clear hG hG2 hT hne u5 u11
            generalize z.world = w7 at *
            have HIT7 := Lib.hid (HIT5.out.chg HC5.out hrk hmk)
            have HC7 := Lib.hid (HC6.out.trans (HC5.out.mono fun j _ e => .inl e))
            have HLE7 : Hid (itLeft w7 r m < itLeft wr r m) := Lib.hid (by have h := HLEN.out; rw [HIT5.out.count] at h; rw [HIT7.out.count]; exact h)
            go_wp2
            go_roundw
            case rel =>
              refine ⟨pre ++ post, true, tn, HIT7.out, HN2.out, fun q => ?_, ?_, HC7.out⟩
              · rw [HQ2.out q, HLS.out q]
                unfold spS
                obtain ⟨q1, q2⟩ := q
                cases q1 <;> simp
              · have hb := HB5.out
                rw [← HP2.out, ← HP3.out] at hb
                exact hb
            case measure => exact HLE7.out
      · obtain ⟨h1, h2⟩ : (!tn) = true ∧ y = t := by simpa using hin
        obtain rfl : tn = false := by simpa using h1
        have h3 := h2.symm
        subst h3
        clear h1 h2 hin
        simp only [spK] at hen
        have HBQ' : Hid (Blk w5 k #[.int .i64 (bif dn then min yl d else yl), .int .i64 (bif dn then max yh d else yh), .int .i64 ul, .int .i64 uh, .bool true]) := Lib.hid HBQ
        obtain ⟨p0, hp2⟩ : ∃ p, (bif dn then min yl d else yl) = p := ⟨_, rfl⟩
        obtain ⟨p1, hp3⟩ : ∃ p, (bif dn then max yh d else yh) = p := ⟨_, rfl⟩
        rw [hp2, hp3] at HBQ'
        have HP2 := Lib.hid hp2
        have HP3 := Lib.hid hp3
        clear hp2 hp3 HBQ
        by_cases hlo : ul ≤ t
        case pos =>
          by_cases hhi : t ≤ uh
          case pos =>
            go_upto_region 6 with fail
            refine wp_region_lat (by kernel_rfl) (fun b o => b = k ∧ (o = 2 ∨ o = 3)) (fun j => j == 5 || (j == 11 || (j == 16 || j == 19))) (exR ul uh) (fun L _ w' => Blk w' k #[.int .i64 p0, .int .i64 p1, .int .i64 (bif L 16 then ul else ul), .int .i64 (bif L 19 then uh else uh), .bool true])
              (by kernel_rfl) (fun j hj => by simp at hj; rcases hj with rfl | rfl | rfl | rfl <;> decide) (fun L L' _ _ hh hb => by rw [hh 16 rfl, hh 19 rfl]; exact hb) (fun L _ w' w'' hb hx => hb.ext hx)
              (fun j => if j = 5 then .int .i64 ul else .int .i64 uh) (fun j _ => ⟨fun e => by subst e; rfl, fun e => by subst e; rfl⟩) HBQ'.out.drew ?_
            intro T hT hne u hu
            have u5 : u 5 = .int .i64 ul := (hu 5 rfl).1 rfl
            have u11 : u 11 = .int .i64 uh := (hu 11 rfl).2 rfl
            clear hu
            refine lx_next 5 (by rfl) (by decide) ?_
            dsimp only [List.take, List.drop]
            repeat (go_big_quiet_step (fail))
            refine wpQuiet_nil ?_
            refine lx_loud (by rfl) (by kernel_rfl) ?_ (fun K hK => ?_)
            · intro L w3 hL hd hcl hC hs
              obtain ⟨z, rfl⟩ := hC
              have h16 := hcl.off hL 40 16 (by kernel_rfl)
              have h19 := hcl.off hL 40 19 (by kernel_rfl)
              have hbb : Blk z.world k #[.int .i64 p0, .int .i64 p1, .int .i64 (bif L 16 then ul else ul), .int .i64 (bif L 19 then uh else uh), .bool true] := hs
              have HS := Lib.hid hbb
              simp only [h16, h19, cond_false] at hbb
              have q0 := hbb.cell 2 (v := .int .i64 ul) rfl
              have ql := hbb.lt
              clear hs hbb
              go_wp2
              exact ⟨⟨(fun e => by first | rfl | cases e), (fun e => by first | rfl | cases e)⟩, ⟨z, rfl⟩, by have := HS.out; simpa [upd] using this⟩
            rw [u5]
            go_simp
            with_reducible refine hK _ ?_
            clear hK K
            refine lx_next 5 (by rfl) (by decide) ?_
            dsimp only [List.take, List.drop]
            repeat (go_big_quiet_step (fail))
            refine wpQuiet_nil ?_
            refine lx_loud (by rfl) (by kernel_rfl) ?_ (fun K hK => ?_)
            · intro L w3 hL hd hcl hC hs
              obtain ⟨z, rfl⟩ := hC
              have h16 := hcl.off hL 40 16 (by kernel_rfl)
              have h19 := hcl.off hL 40 19 (by kernel_rfl)
              have hbb : Blk z.world k #[.int .i64 p0, .int .i64 p1, .int .i64 (bif L 16 then ul else ul), .int .i64 (bif L 19 then uh else uh), .bool true] := hs
              have HS := Lib.hid hbb
              simp only [h16, h19, cond_false] at hbb
              have q0 := hbb.cell 3 (v := .int .i64 uh) rfl
              have ql := hbb.lt
              clear hs hbb
              go_wp2
              exact ⟨⟨(fun e => by first | rfl | cases e), (fun e => by first | rfl | cases e)⟩, ⟨z, rfl⟩, by have := HS.out; simpa [upd] using this⟩
            rw [u11]
            go_simp
            with_reducible refine hK _ ?_
            clear hK K
            refine lx_next 4 (by rfl) (by decide) ?_
            dsimp only [List.take, List.drop]
            repeat (go_big_quiet_step (fail))
            refine wpQuiet_nil ?_
            refine lx_loud (by rfl) (by kernel_rfl) ?_ (fun K hK => ?_)
            · intro L w3 hL hd hcl hC hs
              obtain ⟨z, rfl⟩ := hC
              have hbb : Blk z.world k #[.int .i64 p0, .int .i64 p1, .int .i64 (bif L 16 then ul else ul), .int .i64 (bif L 19 then uh else uh), .bool true] := hs
              have f0 := hbb.frozen 2
              have q0 := hbb.cell 2 rfl
              have ql := hbb.lt
              have HS := Lib.hid hbb
              have HL := Lib.hid hL
              clear hs hbb
              go_wp2
              refine ⟨⟨(fun e => by cases e), (fun e => by cases e)⟩, ⟨z.setCell (.inr ⟨rfl, by simp⟩) _, rfl⟩, ?_⟩
              have hset := HS.out.set 2 (.int .i64 (ul))
              have hL' := HL.out
              simp only [hL', cond_false] at hset
              simpa [upd, hL'] using hset
            go_simp
            with_reducible refine hK _ ?_
            clear hK K
            refine lx_next 2 (by rfl) (by decide) ?_
            dsimp only [List.take, List.drop]
            repeat (go_big_quiet_step (fail))
            refine wpQuiet_nil ?_
            refine lx_loud (by rfl) (by kernel_rfl) ?_ (fun K hK => ?_)
            · intro L w3 hL hd hcl hC hs
              obtain ⟨z, rfl⟩ := hC
              have hbb : Blk z.world k #[.int .i64 p0, .int .i64 p1, .int .i64 (bif L 16 then ul else ul), .int .i64 (bif L 19 then uh else uh), .bool true] := hs
              have f0 := hbb.frozen 3
              have q0 := hbb.cell 3 rfl
              have ql := hbb.lt
              have HS := Lib.hid hbb
              have HL := Lib.hid hL
              clear hs hbb
              go_wp2
              refine ⟨⟨(fun e => by cases e), (fun e => by cases e)⟩, ⟨z.setCell (.inr ⟨rfl, by simp⟩) _, rfl⟩, ?_⟩
              have hset := HS.out.set 3 (.int .i64 (uh))
              have hL' := HL.out
              simp only [hL', cond_false] at hset
              simpa [upd, hL'] using hset
            go_simp
            with_reducible refine hK _ ?_
            clear hK K
            refine lx_nil ?_
            intro z hG
            have hG2 : Blk z.world k #[.int .i64 p0, .int .i64 p1, .int .i64 (bif true then ul else ul), .int .i64 (bif true then uh else uh), .bool true] := hG
            simp only [cond_true] at hG2
            have HB5 : Hid (Blk z.world k #[.int .i64 p0, .int .i64 p1, .int .i64 (min ul t), .int .i64 (max uh t), .bool true]) := Lib.hid (by rw [show min ul t = ul by omega, show max uh t = uh by omega]; exact hG2)
            have HC5 := Lib.hid (z.chg.mono (T := fun j => j = k) (fun j _ ⟨_, h⟩ => h.1))
            clear hG hG2 hT hne u5 u11
            generalize z.world = w7 at *
            have HIT7 := Lib.hid (HIT5.out.chg HC5.out hrk hmk)
            have HC7 := Lib.hid (HC6.out.trans (HC5.out.mono fun j _ e => .inl e))
            have HLE7 : Hid (itLeft w7 r m < itLeft wr r m) := Lib.hid (by have h := HLEN.out; rw [HIT5.out.count] at h; rw [HIT7.out.count]; exact h)
            go_wp2
            go_roundw
            case rel =>
              refine ⟨pre ++ post, dn, true, HIT7.out, HN2.out, fun q => ?_, ?_, HC7.out⟩
              · rw [HQ2.out q, HLS.out q]
                unfold spS
                obtain ⟨q1, q2⟩ := q
                cases q1 <;> simp
              · have hb := HB5.out
                rw [← HP2.out, ← HP3.out] at hb
                exact hb
            case measure => exact HLE7.out
          case neg =>
            go_upto_region 6 with fail
            refine wp_region_lat (by kernel_rfl) (fun b o => b = k ∧ (o = 2 ∨ o = 3)) (fun j => j == 5 || (j == 11 || (j == 16 || j == 19))) (exR ul uh) (fun L _ w' => Blk w' k #[.int .i64 p0, .int .i64 p1, .int .i64 (bif L 16 then ul else ul), .int .i64 (bif L 19 then t else uh), .bool true])
              (by kernel_rfl) (fun j hj => by simp at hj; rcases hj with rfl | rfl | rfl | rfl <;> decide) (fun L L' _ _ hh hb => by rw [hh 16 rfl, hh 19 rfl]; exact hb) (fun L _ w' w'' hb hx => hb.ext hx)
              (fun j => if j = 5 then .int .i64 ul else .int .i64 uh) (fun j _ => ⟨fun e => by subst e; rfl, fun e => by subst e; rfl⟩) HBQ'.out.drew ?_
            intro T hT hne u hu
            have u5 : u 5 = .int .i64 ul := (hu 5 rfl).1 rfl
            have u11 : u 11 = .int .i64 uh := (hu 11 rfl).2 rfl
            clear hu
            refine lx_next 5 (by rfl) (by decide) ?_
            dsimp only [List.take, List.drop]
            repeat (go_big_quiet_step (fail))
            refine wpQuiet_nil ?_
            refine lx_loud (by rfl) (by kernel_rfl) ?_ (fun K hK => ?_)
            · intro L w3 hL hd hcl hC hs
              obtain ⟨z, rfl⟩ := hC
              have h16 := hcl.off hL 40 16 (by kernel_rfl)
              have h19 := hcl.off hL 40 19 (by kernel_rfl)
              have hbb : Blk z.world k #[.int .i64 p0, .int .i64 p1, .int .i64 (bif L 16 then ul else ul), .int .i64 (bif L 19 then t else uh), .bool true] := hs
              have HS := Lib.hid hbb
              simp only [h16, h19, cond_false] at hbb
              have q0 := hbb.cell 2 (v := .int .i64 ul) rfl
              have ql := hbb.lt
              clear hs hbb
              go_wp2
              exact ⟨⟨(fun e => by first | rfl | cases e), (fun e => by first | rfl | cases e)⟩, ⟨z, rfl⟩, by have := HS.out; simpa [upd] using this⟩
            rw [u5]
            go_simp
            with_reducible refine hK _ ?_
            clear hK K
            refine lx_next 5 (by rfl) (by decide) ?_
            dsimp only [List.take, List.drop]
            repeat (go_big_quiet_step (fail))
            refine wpQuiet_nil ?_
            refine lx_loud (by rfl) (by kernel_rfl) ?_ (fun K hK => ?_)
            · intro L w3 hL hd hcl hC hs
              obtain ⟨z, rfl⟩ := hC
              have h16 := hcl.off hL 40 16 (by kernel_rfl)
              have h19 := hcl.off hL 40 19 (by kernel_rfl)
              have hbb : Blk z.world k #[.int .i64 p0, .int .i64 p1, .int .i64 (bif L 16 then ul else ul), .int .i64 (bif L 19 then t else uh), .bool true] := hs
              have HS := Lib.hid hbb
              simp only [h16, h19, cond_false] at hbb
              have q0 := hbb.cell 3 (v := .int .i64 uh) rfl
              have ql := hbb.lt
              clear hs hbb
              go_wp2
              exact ⟨⟨(fun e => by first | rfl | cases e), (fun e => by first | rfl | cases e)⟩, ⟨z, rfl⟩, by have := HS.out; simpa [upd] using this⟩
            rw [u11]
            go_simp
            with_reducible refine hK _ ?_
            clear hK K
            refine lx_next 4 (by rfl) (by decide) ?_
            dsimp only [List.take, List.drop]
            repeat (go_big_quiet_step (fail))
            refine wpQuiet_nil ?_
            refine lx_loud (by rfl) (by kernel_rfl) ?_ (fun K hK => ?_)
            · intro L w3 hL hd hcl hC hs
              obtain ⟨z, rfl⟩ := hC
              have hbb : Blk z.world k #[.int .i64 p0, .int .i64 p1, .int .i64 (bif L 16 then ul else ul), .int .i64 (bif L 19 then t else uh), .bool true] := hs
              have f0 := hbb.frozen 2
              have q0 := hbb.cell 2 rfl
              have ql := hbb.lt
              have HS := Lib.hid hbb
              have HL := Lib.hid hL
              clear hs hbb
              go_wp2
              refine ⟨⟨(fun e => by cases e), (fun e => by cases e)⟩, ⟨z.setCell (.inr ⟨rfl, by simp⟩) _, rfl⟩, ?_⟩
              have hset := HS.out.set 2 (.int .i64 (ul))
              have hL' := HL.out
              simp only [hL', cond_false] at hset
              simpa [upd, hL'] using hset
            go_simp
            with_reducible refine hK _ ?_
            clear hK K
            refine lx_next 2 (by rfl) (by decide) ?_
            dsimp only [List.take, List.drop]
            repeat (go_big_quiet_step (fail))
            refine wpQuiet_nil ?_
            refine lx_loud (by rfl) (by kernel_rfl) ?_ (fun K hK => ?_)
            · intro L w3 hL hd hcl hC hs
              obtain ⟨z, rfl⟩ := hC
              have hbb : Blk z.world k #[.int .i64 p0, .int .i64 p1, .int .i64 (bif L 16 then ul else ul), .int .i64 (bif L 19 then t else uh), .bool true] := hs
              have f0 := hbb.frozen 3
              have q0 := hbb.cell 3 rfl
              have ql := hbb.lt
              have HS := Lib.hid hbb
              have HL := Lib.hid hL
              clear hs hbb
              go_wp2
              refine ⟨⟨(fun e => by cases e), (fun e => by cases e)⟩, ⟨z.setCell (.inr ⟨rfl, by simp⟩) _, rfl⟩, ?_⟩
              have hset := HS.out.set 3 (.int .i64 (t))
              have hL' := HL.out
              simp only [hL', cond_false] at hset
              simpa [upd, hL'] using hset
            go_simp
            with_reducible refine hK _ ?_
            clear hK K
            refine lx_nil ?_
            intro z hG
            have hG2 : Blk z.world k #[.int .i64 p0, .int .i64 p1, .int .i64 (bif true then ul else ul), .int .i64 (bif true then t else uh), .bool true] := hG
            simp only [cond_true] at hG2
            have HB5 : Hid (Blk z.world k #[.int .i64 p0, .int .i64 p1, .int .i64 (min ul t), .int .i64 (max uh t), .bool true]) := Lib.hid (by rw [show min ul t = ul by omega, show max uh t = t by omega]; exact hG2)
            have HC5 := Lib.hid (z.chg.mono (T := fun j => j = k) (fun j _ ⟨_, h⟩ => h.1))
            clear hG hG2 hT hne u5 u11
            generalize z.world = w7 at *
            have HIT7 := Lib.hid (HIT5.out.chg HC5.out hrk hmk)
            have HC7 := Lib.hid (HC6.out.trans (HC5.out.mono fun j _ e => .inl e))
            have HLE7 : Hid (itLeft w7 r m < itLeft wr r m) := Lib.hid (by have h := HLEN.out; rw [HIT5.out.count] at h; rw [HIT7.out.count]; exact h)
            go_wp2
            go_roundw
            case rel =>
              refine ⟨pre ++ post, dn, true, HIT7.out, HN2.out, fun q => ?_, ?_, HC7.out⟩
              · rw [HQ2.out q, HLS.out q]
                unfold spS
                obtain ⟨q1, q2⟩ := q
                cases q1 <;> simp
              · have hb := HB5.out
                rw [← HP2.out, ← HP3.out] at hb
                exact hb
            case measure => exact HLE7.out
        case neg =>
          by_cases hhi : t ≤ uh
          case pos =>
            go_upto_region 6 with fail
            refine wp_region_lat (by kernel_rfl) (fun b o => b = k ∧ (o = 2 ∨ o = 3)) (fun j => j == 5 || (j == 11 || (j == 16 || j == 19))) (exR ul uh) (fun L _ w' => Blk w' k #[.int .i64 p0, .int .i64 p1, .int .i64 (bif L 16 then t else ul), .int .i64 (bif L 19 then uh else uh), .bool true])
              (by kernel_rfl) (fun j hj => by simp at hj; rcases hj with rfl | rfl | rfl | rfl <;> decide) (fun L L' _ _ hh hb => by rw [hh 16 rfl, hh 19 rfl]; exact hb) (fun L _ w' w'' hb hx => hb.ext hx)
              (fun j => if j = 5 then .int .i64 ul else .int .i64 uh) (fun j _ => ⟨fun e => by subst e; rfl, fun e => by subst e; rfl⟩) HBQ'.out.drew ?_
            intro T hT hne u hu
            have u5 : u 5 = .int .i64 ul := (hu 5 rfl).1 rfl
            have u11 : u 11 = .int .i64 uh := (hu 11 rfl).2 rfl
            clear hu
            refine lx_next 5 (by rfl) (by decide) ?_
            dsimp only [List.take, List.drop]
            repeat (go_big_quiet_step (fail))
            refine wpQuiet_nil ?_
            refine lx_loud (by rfl) (by kernel_rfl) ?_ (fun K hK => ?_)
            · intro L w3 hL hd hcl hC hs
              obtain ⟨z, rfl⟩ := hC
              have h16 := hcl.off hL 40 16 (by kernel_rfl)
              have h19 := hcl.off hL 40 19 (by kernel_rfl)
              have hbb : Blk z.world k #[.int .i64 p0, .int .i64 p1, .int .i64 (bif L 16 then t else ul), .int .i64 (bif L 19 then uh else uh), .bool true] := hs
              have HS := Lib.hid hbb
              simp only [h16, h19, cond_false] at hbb
              have q0 := hbb.cell 2 (v := .int .i64 ul) rfl
              have ql := hbb.lt
              clear hs hbb
              go_wp2
              exact ⟨⟨(fun e => by first | rfl | cases e), (fun e => by first | rfl | cases e)⟩, ⟨z, rfl⟩, by have := HS.out; simpa [upd] using this⟩
            rw [u5]
            go_simp
            with_reducible refine hK _ ?_
            clear hK K
            refine lx_next 5 (by rfl) (by decide) ?_
            dsimp only [List.take, List.drop]
            repeat (go_big_quiet_step (fail))
            refine wpQuiet_nil ?_
            refine lx_loud (by rfl) (by kernel_rfl) ?_ (fun K hK => ?_)
            · intro L w3 hL hd hcl hC hs
              obtain ⟨z, rfl⟩ := hC
              have h16 := hcl.off hL 40 16 (by kernel_rfl)
              have h19 := hcl.off hL 40 19 (by kernel_rfl)
              have hbb : Blk z.world k #[.int .i64 p0, .int .i64 p1, .int .i64 (bif L 16 then t else ul), .int .i64 (bif L 19 then uh else uh), .bool true] := hs
              have HS := Lib.hid hbb
              simp only [h16, h19, cond_false] at hbb
              have q0 := hbb.cell 3 (v := .int .i64 uh) rfl
              have ql := hbb.lt
              clear hs hbb
              go_wp2
              exact ⟨⟨(fun e => by first | rfl | cases e), (fun e => by first | rfl | cases e)⟩, ⟨z, rfl⟩, by have := HS.out; simpa [upd] using this⟩
            rw [u11]
            go_simp
            with_reducible refine hK _ ?_
            clear hK K
            refine lx_next 4 (by rfl) (by decide) ?_
            dsimp only [List.take, List.drop]
            repeat (go_big_quiet_step (fail))
            refine wpQuiet_nil ?_
            refine lx_loud (by rfl) (by kernel_rfl) ?_ (fun K hK => ?_)
            · intro L w3 hL hd hcl hC hs
              obtain ⟨z, rfl⟩ := hC
              have hbb : Blk z.world k #[.int .i64 p0, .int .i64 p1, .int .i64 (bif L 16 then t else ul), .int .i64 (bif L 19 then uh else uh), .bool true] := hs
              have f0 := hbb.frozen 2
              have q0 := hbb.cell 2 rfl
              have ql := hbb.lt
              have HS := Lib.hid hbb
              have HL := Lib.hid hL
              clear hs hbb
              go_wp2
              refine ⟨⟨(fun e => by cases e), (fun e => by cases e)⟩, ⟨z.setCell (.inr ⟨rfl, by simp⟩) _, rfl⟩, ?_⟩
              have hset := HS.out.set 2 (.int .i64 (t))
              have hL' := HL.out
              simp only [hL', cond_false] at hset
              simpa [upd, hL'] using hset
            go_simp
            with_reducible refine hK _ ?_
            clear hK K
            refine lx_next 2 (by rfl) (by decide) ?_
            dsimp only [List.take, List.drop]
            repeat (go_big_quiet_step (fail))
            refine wpQuiet_nil ?_
            refine lx_loud (by rfl) (by kernel_rfl) ?_ (fun K hK => ?_)
            · intro L w3 hL hd hcl hC hs
              obtain ⟨z, rfl⟩ := hC
              have hbb : Blk z.world k #[.int .i64 p0, .int .i64 p1, .int .i64 (bif L 16 then t else ul), .int .i64 (bif L 19 then uh else uh), .bool true] := hs
              have f0 := hbb.frozen 3
              have q0 := hbb.cell 3 rfl
              have ql := hbb.lt
              have HS := Lib.hid hbb
              have HL := Lib.hid hL
              clear hs hbb
              go_wp2
              refine ⟨⟨(fun e => by cases e), (fun e => by cases e)⟩, ⟨z.setCell (.inr ⟨rfl, by simp⟩) _, rfl⟩, ?_⟩
              have hset := HS.out.set 3 (.int .i64 (uh))
              have hL' := HL.out
              simp only [hL', cond_false] at hset
              simpa [upd, hL'] using hset
            go_simp
            with_reducible refine hK _ ?_
            clear hK K
            refine lx_nil ?_
            intro z hG
            have hG2 : Blk z.world k #[.int .i64 p0, .int .i64 p1, .int .i64 (bif true then t else ul), .int .i64 (bif true then uh else uh), .bool true] := hG
            simp only [cond_true] at hG2
            have HB5 : Hid (Blk z.world k #[.int .i64 p0, .int .i64 p1, .int .i64 (min ul t), .int .i64 (max uh t), .bool true]) := Lib.hid (by rw [show min ul t = t by omega, show max uh t = uh by omega]; exact hG2)
            have HC5 := Lib.hid (z.chg.mono (T := fun j => j = k) (fun j _ ⟨_, h⟩ => h.1))
            clear hG hG2 hT hne u5 u11
            generalize z.world = w7 at *
            have HIT7 := Lib.hid (HIT5.out.chg HC5.out hrk hmk)
            have HC7 := Lib.hid (HC6.out.trans (HC5.out.mono fun j _ e => .inl e))
            have HLE7 : Hid (itLeft w7 r m < itLeft wr r m) := Lib.hid (by have h := HLEN.out; rw [HIT5.out.count] at h; rw [HIT7.out.count]; exact h)
            go_wp2
            go_roundw
            case rel =>
              refine ⟨pre ++ post, dn, true, HIT7.out, HN2.out, fun q => ?_, ?_, HC7.out⟩
              · rw [HQ2.out q, HLS.out q]
                unfold spS
                obtain ⟨q1, q2⟩ := q
                cases q1 <;> simp
              · have hb := HB5.out
                rw [← HP2.out, ← HP3.out] at hb
                exact hb
            case measure => exact HLE7.out
          case neg =>
            go_upto_region 6 with fail
            refine wp_region_lat (by kernel_rfl) (fun b o => b = k ∧ (o = 2 ∨ o = 3)) (fun j => j == 5 || (j == 11 || (j == 16 || j == 19))) (exR ul uh) (fun L _ w' => Blk w' k #[.int .i64 p0, .int .i64 p1, .int .i64 (bif L 16 then t else ul), .int .i64 (bif L 19 then t else uh), .bool true])
              (by kernel_rfl) (fun j hj => by simp at hj; rcases hj with rfl | rfl | rfl | rfl <;> decide) (fun L L' _ _ hh hb => by rw [hh 16 rfl, hh 19 rfl]; exact hb) (fun L _ w' w'' hb hx => hb.ext hx)
              (fun j => if j = 5 then .int .i64 ul else .int .i64 uh) (fun j _ => ⟨fun e => by subst e; rfl, fun e => by subst e; rfl⟩) HBQ'.out.drew ?_
            intro T hT hne u hu
            have u5 : u 5 = .int .i64 ul := (hu 5 rfl).1 rfl
            have u11 : u 11 = .int .i64 uh := (hu 11 rfl).2 rfl
            clear hu
            refine lx_next 5 (by rfl) (by decide) ?_
            dsimp only [List.take, List.drop]
            repeat (go_big_quiet_step (fail))
            refine wpQuiet_nil ?_
            refine lx_loud (by rfl) (by kernel_rfl) ?_ (fun K hK => ?_)
            · intro L w3 hL hd hcl hC hs
              obtain ⟨z, rfl⟩ := hC
              have h16 := hcl.off hL 40 16 (by kernel_rfl)
              have h19 := hcl.off hL 40 19 (by kernel_rfl)
              have hbb : Blk z.world k #[.int .i64 p0, .int .i64 p1, .int .i64 (bif L 16 then t else ul), .int .i64 (bif L 19 then t else uh), .bool true] := hs
              have HS := Lib.hid hbb
              simp only [h16, h19, cond_false] at hbb
              have q0 := hbb.cell 2 (v := .int .i64 ul) rfl
              have ql := hbb.lt
              clear hs hbb
              go_wp2
              exact ⟨⟨(fun e => by first | rfl | cases e), (fun e => by first | rfl | cases e)⟩, ⟨z, rfl⟩, by have := HS.out; simpa [upd] using this⟩
            rw [u5]
            go_simp
            with_reducible refine hK _ ?_
            clear hK K
            refine lx_next 5 (by rfl) (by decide) ?_
            dsimp only [List.take, List.drop]
            repeat (go_big_quiet_step (fail))
            refine wpQuiet_nil ?_
            refine lx_loud (by rfl) (by kernel_rfl) ?_ (fun K hK => ?_)
            · intro L w3 hL hd hcl hC hs
              obtain ⟨z, rfl⟩ := hC
              have h16 := hcl.off hL 40 16 (by kernel_rfl)
              have h19 := hcl.off hL 40 19 (by kernel_rfl)
              have hbb : Blk z.world k #[.int .i64 p0, .int .i64 p1, .int .i64 (bif L 16 then t else ul), .int .i64 (bif L 19 then t else uh), .bool true] := hs
              have HS := Lib.hid hbb
              simp only [h16, h19, cond_false] at hbb
              have q0 := hbb.cell 3 (v := .int .i64 uh) rfl
              have ql := hbb.lt
              clear hs hbb
              go_wp2
              exact ⟨⟨(fun e => by first | rfl | cases e), (fun e => by first | rfl | cases e)⟩, ⟨z, rfl⟩, by have := HS.out; simpa [upd] using this⟩
            rw [u11]
            go_simp
            with_reducible refine hK _ ?_
            clear hK K
            refine lx_next 4 (by rfl) (by decide) ?_
            dsimp only [List.take, List.drop]
            repeat (go_big_quiet_step (fail))
            refine wpQuiet_nil ?_
            refine lx_loud (by rfl) (by kernel_rfl) ?_ (fun K hK => ?_)
            · intro L w3 hL hd hcl hC hs
              obtain ⟨z, rfl⟩ := hC
              have hbb : Blk z.world k #[.int .i64 p0, .int .i64 p1, .int .i64 (bif L 16 then t else ul), .int .i64 (bif L 19 then t else uh), .bool true] := hs
              have f0 := hbb.frozen 2
              have q0 := hbb.cell 2 rfl
              have ql := hbb.lt
              have HS := Lib.hid hbb
              have HL := Lib.hid hL
              clear hs hbb
              go_wp2
              refine ⟨⟨(fun e => by cases e), (fun e => by cases e)⟩, ⟨z.setCell (.inr ⟨rfl, by simp⟩) _, rfl⟩, ?_⟩
              have hset := HS.out.set 2 (.int .i64 (t))
              have hL' := HL.out
              simp only [hL', cond_false] at hset
              simpa [upd, hL'] using hset
            go_simp
            with_reducible refine hK _ ?_
            clear hK K
            refine lx_next 2 (by rfl) (by decide) ?_
            dsimp only [List.take, List.drop]
            repeat (go_big_quiet_step (fail))
            refine wpQuiet_nil ?_
            refine lx_loud (by rfl) (by kernel_rfl) ?_ (fun K hK => ?_)
            · intro L w3 hL hd hcl hC hs
              obtain ⟨z, rfl⟩ := hC
              have hbb : Blk z.world k #[.int .i64 p0, .int .i64 p1, .int .i64 (bif L 16 then t else ul), .int .i64 (bif L 19 then t else uh), .bool true] := hs
              have f0 := hbb.frozen 3
              have q0 := hbb.cell 3 rfl
              have ql := hbb.lt
              have HS := Lib.hid hbb
              have HL := Lib.hid hL
              clear hs hbb
              go_wp2
              refine ⟨⟨(fun e => by cases e), (fun e => by cases e)⟩, ⟨z.setCell (.inr ⟨rfl, by simp⟩) _, rfl⟩, ?_⟩
              have hset := HS.out.set 3 (.int .i64 (t))
              have hL' := HL.out
              simp only [hL', cond_false] at hset
              simpa [upd, hL'] using hset
            go_simp
            with_reducible refine hK _ ?_
            clear hK K
            refine lx_nil ?_
            intro z hG
            have hG2 : Blk z.world k #[.int .i64 p0, .int .i64 p1, .int .i64 (bif true then t else ul), .int .i64 (bif true then t else uh), .bool true] := hG
            simp only [cond_true] at hG2
            have HB5 : Hid (Blk z.world k #[.int .i64 p0, .int .i64 p1, .int .i64 (min ul t), .int .i64 (max uh t), .bool true]) := Lib.hid (by rw [show min ul t = t by omega, show max uh t = t by omega]; exact hG2)
            have HC5 := Lib.hid (z.chg.mono (T := fun j => j = k) (fun j _ ⟨_, h⟩ => h.1))
            clear hG hG2 hT hne u5 u11
            generalize z.world = w7 at *
            have HIT7 := Lib.hid (HIT5.out.chg HC5.out hrk hmk)
            have HC7 := Lib.hid (HC6.out.trans (HC5.out.mono fun j _ e => .inl e))
            have HLE7 : Hid (itLeft w7 r m < itLeft wr r m) := Lib.hid (by have h := HLEN.out; rw [HIT5.out.count] at h; rw [HIT7.out.count]; exact h)
            go_wp2
            go_roundw
            case rel =>
              refine ⟨pre ++ post, dn, true, HIT7.out, HN2.out, fun q => ?_, ?_, HC7.out⟩
              · rw [HQ2.out q, HLS.out q]
                unfold spS
                obtain ⟨q1, q2⟩ := q
                cases q1 <;> simp
              · have hb := HB5.out
                rw [← HP2.out, ← HP3.out] at hb
                exact hb
            case measure => exact HLE7.out
end Go.Proofs.Ytmopadnkjlodnaa
namespace Go.Proofs.Ytmopadnkjlodnaa
open Go.RowKit Go.BigFrame
structure Sd where
  left : Int
  inn : Bool
  deriving DecidableEq
structure Nw where
  left : Int
  inn : Bool
  tried : Int
  deriving DecidableEq
structure Gl where
  score : Int
  wins : Bool
  deriving DecidableEq
def Sd.agg (s : Sd) : Value := .agg #[.int .i64 s.left, .bool s.inn]
def Nw.agg (s : Nw) : Value := .agg #[.int .i64 s.left, .bool s.inn, .int .i64 s.tried]
def Gl.agg (s : Gl) : Value := .agg #[.int .i64 s.score, .bool s.wins]
theorem eqSd (d : Nat) (a b : Sd) (w : World) : (Op.equalIn (d + 2) 119 a.agg b.agg).run Try.prog w = .ok (decide (a = b)) w := by
  have u3 := Try.underlying3
  have a3 := Try.isAgg3
  have z3 := Try.sizeOf3
  have u4 := Try.underlying4
  have a4 := Try.isAgg4
  have z4 := Try.sizeOf4
  have hS : Try.prog.underlying 119 = some (.struct (Try.prog.fieldsOf 119)) := by kernel_rfl
  obtain ⟨al, ai⟩ := a
  obtain ⟨bl, bi⟩ := b
  unfold Sd.agg
  rw [run_equalIn_struct w (d + 1) 119 _ _ hS (by kernel_rfl)]
  simp only [Program.fieldsOf, Try.underlying119]
  go_simp
  by_cases h1 : al = bl <;> by_cases h2 : ai = bi <;> simp [h1, h2]
theorem eqGl (d : Nat) (a b : Gl) (w : World) : (Op.equalIn (d + 2) 121 a.agg b.agg).run Try.prog w = .ok (decide (a = b)) w := by
  have u3 := Try.underlying3
  have a3 := Try.isAgg3
  have z3 := Try.sizeOf3
  have u4 := Try.underlying4
  have a4 := Try.isAgg4
  have z4 := Try.sizeOf4
  have hS : Try.prog.underlying 121 = some (.struct (Try.prog.fieldsOf 121)) := by kernel_rfl
  obtain ⟨al, ai⟩ := a
  obtain ⟨bl, bi⟩ := b
  unfold Gl.agg
  rw [run_equalIn_struct w (d + 1) 121 _ _ hS (by kernel_rfl)]
  simp only [Program.fieldsOf, Try.underlying121]
  go_simp
  by_cases h1 : al = bl <;> by_cases h2 : ai = bi <;> simp [h1, h2]
theorem eqNw (d : Nat) (a b : Nw) (w : World) : (Op.equalIn (d + 3) 127 a.agg b.agg).run Try.prog w = .ok (decide (a = b)) w := by
  have u3 := Try.underlying3
  have a3 := Try.isAgg3
  have z3 := Try.sizeOf3
  have a9 := Try.isAgg119
  have z9 := Try.sizeOf119
  have hS : Try.prog.underlying 127 = some (.struct (Try.prog.fieldsOf 127)) := by kernel_rfl
  obtain ⟨al, ai, au⟩ := a
  obtain ⟨bl, bi, bu⟩ := b
  have e := fun W => eqSd d ⟨al, ai⟩ ⟨bl, bi⟩ W
  unfold Sd.agg at e
  unfold Nw.agg
  rw [run_equalIn_struct w (d + 2) 127 _ _ hS (by kernel_rfl)]
  simp only [Program.fieldsOf, Try.underlying127]
  go_simp
  by_cases h1 : al = bl <;> by_cases h2 : ai = bi <;> by_cases h3 : au = bu <;> simp [h1, h2, h3]
theorem chkSd (d : Nat) (em : Bool) (a : Sd) (w : World) : (Instr.checkKey em (d + 2) 119 a.agg).run Try.prog w = .ok () w := by
  have u3 := Try.underlying3
  have a3 := Try.isAgg3
  have z3 := Try.sizeOf3
  have u4 := Try.underlying4
  have a4 := Try.isAgg4
  have z4 := Try.sizeOf4
  unfold Sd.agg
  rw [Instr.checkKey]
  simp only [Sem.run_bind, run_underlying Try.underlying119, Result.andThen_ok]
  rw [← Array.forIn_toList]
  simp [Instr.checkKey, go_sem, run_underlying u3, run_underlying u4]
theorem chkGl (d : Nat) (em : Bool) (a : Gl) (w : World) : (Instr.checkKey em (d + 2) 121 a.agg).run Try.prog w = .ok () w := by
  have u3 := Try.underlying3
  have a3 := Try.isAgg3
  have z3 := Try.sizeOf3
  have u4 := Try.underlying4
  have a4 := Try.isAgg4
  have z4 := Try.sizeOf4
  unfold Gl.agg
  rw [Instr.checkKey]
  simp only [Sem.run_bind, run_underlying Try.underlying121, Result.andThen_ok]
  rw [← Array.forIn_toList]
  simp [Instr.checkKey, go_sem, run_underlying u3, run_underlying u4]
theorem chkNw (d : Nat) (em : Bool) (a : Nw) (w : World) : (Instr.checkKey em (d + 3) 127 a.agg).run Try.prog w = .ok () w := by
  have u3 := Try.underlying3
  have a3 := Try.isAgg3
  have z3 := Try.sizeOf3
  have a9 := Try.isAgg119
  have z9 := Try.sizeOf119
  obtain ⟨al, ai, au⟩ := a
  have e := fun W => chkSd d em ⟨al, ai⟩ W
  unfold Sd.agg at e
  simp only at e
  unfold Nw.agg
  rw [Instr.checkKey]
  simp only [Sem.run_bind, run_underlying Try.underlying127, Result.andThen_ok]
  rw [← Array.forIn_toList]
  simp [go_sem, e, a3, a9, z9]
  simp [Instr.checkKey, run_underlying u3]
theorem keyL_stand : KeyL Try.prog 119 Sd.agg (fun _ => True) := by
  refine ⟨fun k es w => run_findKey_eq w (by kernel_rfl) _ _, fun em k w => chkSd 9998 em k w, fun a b w _ => ?_, fun k => ?_⟩
  · simp only [Op.equal, Op.maxDepth]
    exact eqSd 9998 a b w
  · have key : ∀ n, Instr.sameBits (n + 1) k.agg k.agg = true := fun n => by simp [Sd.agg, Instr.sameBits]
    exact key 9999
theorem keyL_goal : KeyL Try.prog 121 Gl.agg (fun _ => True) := by
  refine ⟨fun k es w => run_findKey_eq w (by kernel_rfl) _ _, fun em k w => chkGl 9998 em k w, fun a b w _ => ?_, fun k => ?_⟩
  · simp only [Op.equal, Op.maxDepth]
    exact eqGl 9998 a b w
  · have key : ∀ n, Instr.sameBits (n + 1) k.agg k.agg = true := fun n => by simp [Gl.agg, Instr.sameBits]
    exact key 9999
theorem keyL_now : KeyL Try.prog 127 Nw.agg (fun _ => True) := by
  refine ⟨fun k es w => run_findKey_eq w (by kernel_rfl) _ _, fun em k w => chkNw 9997 em k w, fun a b w _ => ?_, fun k => ?_⟩
  · simp only [Op.equal, Op.maxDepth]
    exact eqNw 9997 a b w
  · have key : ∀ n, Instr.sameBits (n + 1) k.agg k.agg = true := fun n => by simp [Nw.agg, Instr.sameBits]
    exact key 9999
/-- Any element of a set. -/
inductive Yes
  | yes
def Yes.val (_ : Yes) : Value := .bool true
def mpK (k : Nat) : Value := .map (some k)
theorem under_found : Try.prog.underlying 154 = some (.map 119 159) := by kernel_rfl
theorem under_out : Try.prog.underlying 159 = some (.map 121 158) := by kernel_rfl
theorem under_level : Try.prog.underlying 179 = some (.map 127 4) := by kernel_rfl
theorem zero_out (w : World) : (zeroValue 159).run Try.prog w = .ok (.map none) w := by
  first | exact Try.zeroValue159 w | exact Try.zeroValue159 _
def noEx : Ex := ⟨0, 0, 0, 0, false⟩
theorem zero_ext (w : World) : (zeroValue 158).run Try.prog w = .ok noEx.agg w := by
  first | exact Try.zeroValue158 w | exact Try.zeroValue158 _
end Go.Proofs.Ytmopadnkjlodnaa
namespace Go.Proofs.Ytmopadnkjlodnaa
open Go.RowKit Go.BigFrame
attribute [local go_sem] Later.cell Later.frozen
set_option maxRecDepth 100000 in
set_option maxHeartbeats 4000000 in
theorem mean_from1 (g : Gl) (d t : Int) (ko bo : Nat) (l : List (Gl × Ex)) (w : World) (hc : w.cell? ⟨ko, 0, none⟩ = some (.map (some bo))) (hm : MapL Gl.agg Ex.agg w bo l) :
    Calls Try.prog 94 #[g.agg, .int .i64 d, .int .i64 t, .pointer (some ⟨ko, 0, none⟩)] w fun e w' => e = .returned (.tuple #[]) ∧ MapL Gl.agg Ex.agg w' bo (putL l g (addX ((lookL l g).getD noEx) d t)) ∧ Chg (· = bo) w w' := by
  obtain ⟨x, hx⟩ : ∃ x, (lookL l g).getD noEx = x := ⟨_, rfl⟩
  rw [hx]
  have HLK : Hid (∀ W, MapL Gl.agg Ex.agg W bo l → (Instr.lookup 159 (.map (some bo)) (.agg #[.int .i64 g.score, .bool g.wins]) false).run Try.prog W = .ok (.agg #[.int .i64 x.dl, .int .i64 x.dh, .int .i64 x.tl, .int .i64 x.th, .bool x.some]) W) := Lib.hid (fun W hW => by
    have := (run_look keyL_goal under_out hW trivial (zero_ext W) g).1
    unfold Gl.agg at this
    rw [this]
    congr 1
    rw [← hx]
    cases lookL l g <;> rfl)
  have HM := Lib.hid hm
  have HC := Lib.hid hc
  obtain ⟨gs, gw⟩ := g
  have HMB := Lib.hid hm.lt
  unfold Gl.agg at HLK
  simp only at HLK
  obtain ⟨va, hva⟩ : ∃ v, (Gl.agg ⟨gs, gw⟩) = v := ⟨_, rfl⟩
  rw [hva]
  unfold Gl.agg at hva
  simp only at hva
  subst hva
  have hcl := lt_of_cell hc
  simp only at hcl
  clear hx hm
  go_enter Try.func94, Try.ntmps94
  go_upto_region 1 with fail
  obtain ⟨w1, hw1⟩ : ∃ y, y = w.alloc (.cells #[.int .i64 gs, .bool gw] 121) := ⟨_, rfl⟩
  rw [← hw1]
  have hx1 : Ext w w1 := by rw [hw1]; exact (Ext.refl w).alloc _
  have HG1 : Hid (Blk w1 w.heap.size #[.int .i64 gs, .bool gw]) := Lib.hid (by rw [hw1]; exact Blk.new _ _ _)
  have hlk := HLK.out w1 (HM.out.ext hx1)
  have HX1 := Lib.hid hx1
  have HM1 := Lib.hid (HM.out.ext hx1)
  replace hc := hx1.cell HC.out
  have hcl1 := lt_of_cell hc
  simp only at hcl1
  have g0 := HG1.out.cell 0 (v := .int .i64 gs) rfl
  have g1 := HG1.out.cell 1 (v := .bool gw) rfl
  have gl := HG1.out.lt
  clear hx1 hw1
  go_upto_region 2 with fail
  obtain ⟨w2, hw2⟩ : ∃ y, y = w1.alloc (.cells #[.int .i64 x.dl, .int .i64 x.dh, .int .i64 x.tl, .int .i64 x.th, .bool x.some] 158) := ⟨_, rfl⟩
  rw [← hw2]
  obtain ⟨k7, hk7⟩ : ∃ k, k = w1.heap.size := ⟨_, rfl⟩
  rw [← hk7]
  have hk1 : w1.heap.size ≤ k7 := by omega
  have hx2 : Ext w1 w2 := by rw [hw2]; exact (Ext.refl w1).alloc _
  have HB2 : Hid (Blk w2 k7 x.cells) := Lib.hid (by rw [hw2, hk7]; exact Blk.new _ _ _)
  have HM2 := Lib.hid (HM1.out.ext hx2)
  have HG2 := Lib.hid (HG1.out.ext hx2)
  have HX2 := Lib.hid (HX1.out.trans hx2)
  replace hc := hx2.cell hc
  have hcl2 := lt_of_cell hc
  simp only at hcl2
  have hx2s := HX1.out.size
  clear hx2 hw2 hlk hk7 HM1 HG1
  go_wp2_with fail
  refine (mean_extAdd k7 x d t _ HB2.out).mono ?_
  rintro e w3 ⟨rfl, hb3, hc3⟩
  have HC3 := Lib.hid hc3
  have HM3 := Lib.hid (HM2.out.chg hc3 (by have := HMB.out; omega))
  have HG3 := Lib.hid (HG2.out.chg hc3 (by omega))
  replace hc := hc3.cell hc (by show ¬ ko = k7; omega)
  have hcl3 := lt_of_cell hc
  simp only at hcl3
  have HX3 := Lib.hid (Chg.to_ext HX2.out hc3 (fun i hi => by omega))
  obtain ⟨z, hz⟩ : ∃ z, addX x d t = z := ⟨_, rfl⟩
  have HZ := Lib.hid hz
  rw [hz] at hb3
  clear hz
  have e0 := hb3.cell 0 (v := .int .i64 z.dl) rfl
  have e1 := hb3.cell 1 (v := .int .i64 z.dh) rfl
  have e2 := hb3.cell 2 (v := .int .i64 z.tl) rfl
  have e3 := hb3.cell 3 (v := .int .i64 z.th) rfl
  have e4 := hb3.cell 4 (v := .bool z.some) rfl
  have el := hb3.lt
  have g0 := HG3.out.cell 0 (v := .int .i64 gs) rfl
  have g1 := HG3.out.cell 1 (v := .bool gw) rfl
  have gl := HG3.out.lt
  clear hc3 hb3
  go_wp2_with (at_mapUpdate; refine wp_putL keyL_goal under_out rfl _ _ _ rfl bo l ⟨gs, gw⟩ z rfl HM3.out trivial rfl rfl ?_)
  intro w4 hm4 hc4
  have HM4 := Lib.hid hm4
  have HC4 := Lib.hid hc4
  clear hm4 hc4
  go_wp2
  refine bodyPost_end (results_none rfl _ _ _) rfl ⟨rfl, by rw [HZ.out]; exact HM4.out, (HX3.out.chg _).trans HC4.out⟩
end Go.Proofs.Ytmopadnkjlodnaa
