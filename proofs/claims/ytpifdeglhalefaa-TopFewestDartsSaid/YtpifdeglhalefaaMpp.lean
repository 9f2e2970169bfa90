/-
  Maps with keys of any kind, as lists of keys and elements. Over any program.
-/
import Derived.Test.YtpifdeglhalefaaBase
import Derived.Maps.RangeRun
import Derived.Maps.RangeWalk
import Derived.WideKeyRuns
import Derived.Laws.StructEq
namespace Go.Proofs.Ytpifdeglhalefaa
open Go.RowKit
open Go.ChangeMaps (setBlock)
variable {κ ν : Type}
/-- What a type of keys owes, in worlds of G. -/
structure KeyL [DecidableEq κ] (P : Program) (T : TypeId) (ek : κ → Value) (G : World → Prop) : Prop where
  wide : ∀ k es w, (Instr.findKey T (ek k) es).run P w = (Instr.findAsking T (ek k) es).run P w
  chk : ∀ em k w, (Instr.checkKey em 10000 T (ek k)).run P w = .ok () w
  eq : ∀ a b w, G w → (Op.equal T (ek a) (ek b)).run P w = .ok (decide (a = b)) w
  bits : ∀ k, Instr.sameBits 10000 (ek k) (ek k) = true
def entE (e : MapEntry) : Value × Value := (e.key, e.val)
def encE (ek : κ → Value) (ev : ν → Value) (x : κ × ν) : Value × Value := (ek x.1, ev x.2)
def posL [DecidableEq κ] : List (κ × ν) → κ → Nat → Option (Nat × ν)
  | [], _, _ => none
  | x :: l, k, i => if k = x.1 then some (i, x.2) else posL l k (i + 1)
def lookL [DecidableEq κ] (l : List (κ × ν)) (k : κ) : Option ν := (posL l k 0).map (·.2)
def putL [DecidableEq κ] (l : List (κ × ν)) (k : κ) (v : ν) : List (κ × ν) := match posL l k 0 with
  | some (i, _) => l.set i (k, v)
  | none => l ++ [(k, v)]
theorem posL_some [DecidableEq κ] : ∀ (l : List (κ × ν)) (k : κ) (i j : Nat) (v : ν), posL l k i = some (j, v) → ∃ q, j = i + q ∧ l[q]? = some (k, v)
  | [], _, _, _, _, h => by cases h
  | x :: l, k, i, j, v, h => by
    unfold posL at h
    split at h
    · rename_i e
      cases h
      exact ⟨0, rfl, by simp [e]⟩
    · obtain ⟨q, h1, h2⟩ := posL_some l k (i + 1) j v h
      exact ⟨q + 1, by omega, by simpa using h2⟩
theorem posL_none [DecidableEq κ] : ∀ (l : List (κ × ν)) (k : κ) (i : Nat), posL l k i = none ↔ k ∉ l.map (·.1)
  | [], _, _ => by simp [posL]
  | x :: l, k, i => by
    unfold posL
    split
    · rename_i e
      simp [e]
    · rename_i e
      rw [posL_none l k (i + 1)]
      simp [e]
theorem lookL_none [DecidableEq κ] (l : List (κ × ν)) (k : κ) : lookL l k = none ↔ k ∉ l.map (·.1) := by
  unfold lookL; rw [Option.map_eq_none_iff]; exact posL_none l k 0
theorem lookL_mem [DecidableEq κ] {l : List (κ × ν)} {k : κ} {v : ν} (h : lookL l k = some v) : (k, v) ∈ l := by
  unfold lookL at h
  cases hp : posL l k 0 with
  | none => rw [hp] at h; cases h
  | some p =>
    rw [hp] at h
    cases h
    obtain ⟨q, -, h2⟩ := posL_some l k 0 p.1 p.2 hp
    exact List.mem_of_getElem? h2
theorem lookL_of_mem [DecidableEq κ] : ∀ {l : List (κ × ν)} {k : κ} {v : ν}, (l.map (·.1)).Nodup → (k, v) ∈ l → lookL l k = some v := by
  intro l k v hn hm
  cases h : lookL l k with
  | none => exact absurd (List.mem_map.2 ⟨_, hm, rfl⟩) ((lookL_none l k).1 h)
  | some u =>
    have h1 := lookL_mem h
    congr 1
    obtain ⟨i, hi, e1⟩ := List.mem_iff_getElem.1 hm
    obtain ⟨j, hj, e2⟩ := List.mem_iff_getElem.1 h1
    have hij : i = j := by
      rcases Nat.lt_trichotomy i j with h | h | h
      · exact absurd (by simp [e1, e2] : (l.map (·.1))[i]'(by simpa using hi) = (l.map (·.1))[j]'(by simpa using hj)) (List.pairwise_iff_getElem.1 hn i j _ _ h)
      · exact h
      · exact absurd (by simp [e1, e2] : (l.map (·.1))[j]'(by simpa using hj) = (l.map (·.1))[i]'(by simpa using hi)) (List.pairwise_iff_getElem.1 hn j i _ _ h)
    subst hij
    rw [e1] at e2
    cases e2
    rfl
theorem putL_keys [DecidableEq κ] (l : List (κ × ν)) (k : κ) (v : ν) : (putL l k v).map (·.1) = if k ∈ l.map (·.1) then l.map (·.1) else l.map (·.1) ++ [k] := by
  unfold putL
  cases h : posL l k 0 with
  | none => rw [if_neg ((posL_none l k 0).1 h)]; simp
  | some p =>
    obtain ⟨q, h1, h2⟩ := posL_some l k 0 p.1 p.2 h
    have hm : k ∈ l.map (·.1) := List.mem_map.2 ⟨_, List.mem_of_getElem? h2, rfl⟩
    rw [if_pos hm]
    simp only
    rw [List.map_set]
    obtain ⟨hq, e⟩ := List.getElem?_eq_some_iff.1 h2
    have e0 : p.1 = q := by omega
    rw [e0]
    apply List.ext_getElem?
    intro i
    rw [List.getElem?_set]
    split
    · rename_i e3
      subst e3
      simp [hq, e]
    · rfl
theorem putL_nodup [DecidableEq κ] {l : List (κ × ν)} (h : (l.map (·.1)).Nodup) (k : κ) (v : ν) : ((putL l k v).map (·.1)).Nodup := by
  rw [putL_keys]
  split
  · exact h
  · rename_i hk
    rw [List.nodup_append]
    exact ⟨h, by simp, fun a ha b hb => by simp at hb; subst hb; exact fun e => hk (e ▸ ha)⟩
theorem lookL_put [DecidableEq κ] {l : List (κ × ν)} (hn : (l.map (·.1)).Nodup) (k : κ) (v : ν) (j : κ) : lookL (putL l k v) j = if j = k then some v else lookL l j := by
  have hn2 := putL_nodup hn k v
  have hmem : ∀ x, x ∈ putL l k v ↔ x = (k, v) ∨ (x ∈ l ∧ x.1 ≠ k) := by
    intro x
    unfold putL
    cases h : posL l k 0 with
    | none =>
      have hk := (posL_none l k 0).1 h
      simp only [List.mem_append, List.mem_singleton]
      constructor
      · rintro (h1 | h1)
        · exact .inr ⟨h1, fun e => hk (List.mem_map.2 ⟨x, h1, e⟩)⟩
        · exact .inl h1
      · rintro (h1 | h1)
        · exact .inr h1
        · exact .inl h1.1
    | some p =>
      obtain ⟨q, h1, h2⟩ := posL_some l k 0 p.1 p.2 h
      obtain ⟨hq, e⟩ := List.getElem?_eq_some_iff.1 h2
      have e0 : p.1 = q := by omega
      simp only [e0]
      constructor
      · intro hx
        obtain ⟨i, hi, e3⟩ := List.mem_iff_getElem.1 hx
        rw [List.getElem_set] at e3
        split at e3
        · exact .inl e3.symm
        · rename_i hne
          have hil : i < l.length := by simpa using hi
          refine .inr ⟨e3 ▸ List.getElem_mem hil, fun ek => ?_⟩
          have := List.pairwise_iff_getElem.1 hn
          rcases Nat.lt_or_gt_of_ne hne with h | h
          · exact absurd (by rw [List.getElem_map, List.getElem_map, e, e3, ek]) (this q i (by simpa using hq) (by simpa using hil) h)
          · exact absurd (by rw [List.getElem_map, List.getElem_map, e, e3, ek]) (this i q (by simpa using hil) (by simpa using hq) h)
      · rintro (rfl | ⟨hx, hk⟩)
        · exact List.mem_iff_getElem.2 ⟨q, by simpa using hq, by simp⟩
        · obtain ⟨i, hi, e3⟩ := List.mem_iff_getElem.1 hx
          refine List.mem_iff_getElem.2 ⟨i, by simpa using hi, ?_⟩
          rw [List.getElem_set, if_neg (by rintro rfl; rw [e] at e3; exact hk (by rw [← e3]))]
          exact e3
  by_cases e : j = k
  · subst e
    rw [if_pos rfl]
    exact lookL_of_mem hn2 ((hmem _).2 (.inl rfl))
  · rw [if_neg e]
    cases h : lookL l j with
    | none =>
      rw [lookL_none] at h ⊢
      rw [putL_keys]
      split
      · exact h
      · simp only [List.mem_append, List.mem_singleton, not_or]
        exact ⟨h, e⟩
    | some u => exact lookL_of_mem hn2 ((hmem _).2 (.inr ⟨lookL_mem h, e⟩))
section
variable {P : Program} {T : TypeId} {ek : κ → Value} {ev : ν → Value} {G : World → Prop}
theorem find_run [DecidableEq κ] (K : KeyL P T ek G) {w : World} (hG : G w) (k : κ) : ∀ (l : List (κ × ν)) (es : List MapEntry) (i : Nat), es.map entE = l.map (encE ek ev) → (Instr.findAsking T (ek k) es i).run P w = .ok ((posL l k i).map fun p => (p.1, ev p.2)) w
  | [], [], i, _ => by simp [Instr.findAsking, posL]
  | [], e :: es, i, h => by cases h
  | x :: l, [], i, h => by cases h
  | x :: l, e :: es, i, h => by
    simp only [List.map_cons, List.cons.injEq] at h
    obtain ⟨h1, h2⟩ := h
    simp only [entE, encE, Prod.mk.injEq] at h1
    have ih := find_run K hG k l es (i + 1) h2
    by_cases hk : k = x.1
    · simp [Instr.findAsking, posL, h1.1, h1.2, K.eq _ _ _ hG, hk]
    · simp [Instr.findAsking, posL, h1.1, K.eq _ _ _ hG, hk, ih]
/-- Block b is a map of just these. -/
structure MapL (ek : κ → Value) (ev : ν → Value) (w : World) (b : Nat) (l : List (κ × ν)) : Prop where
  ex : ∃ es clock, w.heap[b]? = some (.map es clock) ∧ es.toList.map entE = l.map (encE ek ev) ∧ (l.map (·.1)).Nodup ∧ (∀ e ∈ es.toList, e.born < clock) ∧ (es.toList.map (·.born)).Nodup
theorem MapL.nodup {w : World} {b : Nat} {l : List (κ × ν)} (h : MapL ek ev w b l) : (l.map (·.1)).Nodup := let ⟨_, _, _, _, h, _⟩ := h.ex; h
theorem MapL.lt {w : World} {b : Nat} {l : List (κ × ν)} (h : MapL ek ev w b l) : b < w.heap.size := let ⟨_, _, h, _⟩ := h.ex; (Array.getElem?_eq_some_iff.1 h).1
theorem MapL.same {w w' : World} {b : Nat} {l : List (κ × ν)} (h : MapL ek ev w b l) (e : w'.heap[b]? = w.heap[b]?) : MapL ek ev w' b l := let ⟨es, clock, h1, h2⟩ := h.ex; ⟨es, clock, e.trans h1, h2⟩
theorem MapL.ext {w w' : World} {b : Nat} {l : List (κ × ν)} (h : MapL ek ev w b l) (hx : Ext w w') : MapL ek ev w' b l := h.same (Below.block hx b h.lt)
theorem MapL.chg {S : Nat → Prop} {w w' : World} {b : Nat} {l : List (κ × ν)} (h : MapL ek ev w b l) (hx : Chg S w w') (hs : ¬ S b) : MapL ek ev w' b l := h.same (hx.block b h.lt hs)
theorem MapL.made (w : World) : MapL ek ev (w.alloc (.map #[] 0)) w.heap.size ([] : List (κ × ν)) :=
  ⟨#[], 0, by show (w.heap.push _)[w.heap.size]? = _; simp, rfl, by simp, by simp, by simp⟩
theorem run_look [DecidableEq κ] (K : KeyL P T ek G) {t e : TypeId} (ht : P.underlying t = some (.map T e)) {w : World} {b : Nat} {l : List (κ × ν)} (h : MapL ek ev w b l) (hG : G w) {z : Value} (hz : (zeroValue e).run P w = .ok z w) (k : κ) :
    (Instr.lookup t (.map (some b)) (ek k) false).run P w = .ok (((lookL l k).map ev).getD z) w ∧ (Instr.lookup t (.map (some b)) (ek k) true).run P w = .ok (.tuple #[((lookL l k).map ev).getD z, .bool (lookL l k).isSome]) w := by
  obtain ⟨es, clock, h1, h2, -⟩ := h.ex
  have hf := find_run K hG k l es.toList 0 h2
  unfold lookL
  cases hp : posL l k 0 with
  | none =>
    rw [hp] at hf
    constructor <;> simp [Instr.lookup, run_underlying ht, getObj, Sem.run, h1, K.chk, K.wide, hf, hz, Result.andThen]
  | some p =>
    rw [hp] at hf
    constructor <;> simp [Instr.lookup, run_underlying ht, getObj, Sem.run, h1, K.chk, K.wide, hf, Result.andThen]
theorem chg_setBlock {w : World} {b : Nat} (o : Obj) : Chg (· = b) w (setBlock w b o) :=
  ⟨rfl, rfl, rfl, by simp [setBlock], fun k hk hs => by show (w.heap.setIfInBounds b o)[k]? = _; rw [Array.getElem?_setIfInBounds_ne (by exact fun h => hs h.symm)]⟩
theorem run_setObj_map {w : World} {r : Nat} {es : Array MapEntry} {c : Nat} (hr : w.heap[r]? = some (.map es c)) (o' : Obj) : (setObj r o').run P w = .ok () (setBlock w r o') := by
  simp [setObj, Sem.run, hr, setBlock]
theorem run_put [DecidableEq κ] (K : KeyL P T ek G) {t e : TypeId} (ht : P.underlying t = some (.map T e)) {w : World} {b : Nat} {l : List (κ × ν)} (h : MapL ek ev w b l) (hG : G w) (k : κ) (v : ν) :
    ∃ w', (Instr.mapUpdate t (.map (some b)) (ek k) (ev v)).run P w = .ok () w' ∧ MapL ek ev w' b (putL l k v) ∧ Chg (· = b) w w' := by
  obtain ⟨es, clock, h1, h2, h3, h4, h5⟩ := h.ex
  have hf := find_run K hG k l es.toList 0 h2
  have hb := (Array.getElem?_eq_some_iff.1 h1).1
  have hn := putL_nodup h3 k v
  cases hp : posL l k 0 with
  | none =>
    rw [hp] at hf
    have hput : putL l k v = l ++ [(k, v)] := by unfold putL; rw [hp]
    refine ⟨setBlock w b (.map (es.push ⟨ek k, ev v, clock⟩) (clock + 1)), ?_, ⟨es.push ⟨ek k, ev v, clock⟩, clock + 1, ?_, ?_, hn, ?_, ?_⟩, chg_setBlock _⟩
    · simp [Instr.mapUpdate, run_underlying ht, getObj, Sem.run, h1, K.chk, K.wide, hf, Result.andThen]
      exact run_setObj_map h1 _
    · simp [setBlock, hb]
    · simp [hput, h2, entE, encE]
    · intro x hx
      simp at hx
      rcases hx with hx | rfl
      · have := h4 x (by simpa using hx); omega
      · simp
    · simp only [Array.toList_push, List.map_append, List.map_cons, List.map_nil]
      rw [List.nodup_append]
      refine ⟨h5, by simp, fun a ha c hc => ?_⟩
      obtain ⟨x, hx, rfl⟩ := List.mem_map.1 ha
      simp at hc
      have := h4 x hx
      omega
  | some p =>
    rw [hp] at hf
    obtain ⟨q, e1, e2⟩ := posL_some l k 0 p.1 p.2 hp
    have e0 : p.1 = q := by omega
    obtain ⟨hq, e3⟩ := List.getElem?_eq_some_iff.1 e2
    have hput : putL l k v = l.set q (k, v) := by unfold putL; rw [hp]; simp only [e0]
    have hlen : es.toList.length = l.length := by have := congrArg List.length h2; simpa using this
    have hqe : q < es.size := by have := hlen; simp at this; omega
    have hkey : es[q].key = ek k := by
      have := congrArg (fun z => z[q]?) h2
      simp only [List.getElem?_map, e2] at this
      rw [List.getElem?_eq_getElem (by simpa using hqe)] at this
      simp [entE, encE] at this
      exact this.1
    refine ⟨setBlock w b (.map (es.modify q fun x => { x with key := ek k, val := ev v }) clock), ?_, ⟨es.modify q fun x => { x with key := ek k, val := ev v }, clock, ?_, ?_, hn, ?_, ?_⟩, chg_setBlock _⟩
    · simp [Instr.mapUpdate, run_underlying ht, getObj, Sem.run, h1, K.chk, K.wide, hf, Result.andThen, e0, hqe, hkey, Instr.keyThatStays, K.bits]
      exact run_setObj_map h1 _
    · simp [setBlock, hb]
    · rw [hput, List.map_set, ← h2]
      apply List.ext_getElem?
      intro i
      rw [List.getElem?_set, List.getElem?_map, Array.getElem?_toList, Array.getElem?_modify, List.getElem?_map, Array.getElem?_toList]
      by_cases hi : q = i
      · subst hi
        simp [hqe, entE, encE]
      · rw [if_neg hi, if_neg hi]
    · intro x hx
      obtain ⟨i, hi, rfl⟩ := List.mem_iff_getElem.1 hx
      have hi2 : i < es.size := by simpa using hi
      have := h4 es[i] (by simp)
      rw [Array.getElem_toList, Array.getElem_modify]
      split <;> exact this
    · have : (es.modify q fun x => { x with key := ek k, val := ev v }).toList.map (·.born) = es.toList.map (·.born) := by
        apply List.ext_getElem?
        intro i
        rw [List.getElem?_map, Array.getElem?_toList, Array.getElem?_modify, List.getElem?_map, Array.getElem?_toList]
        split
        · cases es[i]? <;> rfl
        · rfl
      rw [this]
      exact h5
/-- Block r ranges over the map in block b, and these are still to come. -/
structure IterL (ek : κ → Value) (ev : ν → Value) (w : World) (r b : Nat) (left : List (κ × ν)) : Prop where
  ex : ∃ seen c es, w.heap[r]? = some (.mapIter (some b) c seen c) ∧ w.heap[b]? = some (.map es c) ∧ (∀ x ∈ es.toList, x.born < c) ∧ (es.toList.map (·.born)).Nodup ∧ (leftOf es seen).toList.map entE = left.map (encE ek ev)
theorem IterL.ltr {w : World} {r b : Nat} {l : List (κ × ν)} (h : IterL ek ev w r b l) : r < w.heap.size := let ⟨_, _, _, h, _⟩ := h.ex; (Array.getElem?_eq_some_iff.1 h).1
theorem IterL.ltb {w : World} {r b : Nat} {l : List (κ × ν)} (h : IterL ek ev w r b l) : b < w.heap.size := let ⟨_, _, _, _, h, _⟩ := h.ex; (Array.getElem?_eq_some_iff.1 h).1
theorem IterL.same {w w' : World} {r b : Nat} {l : List (κ × ν)} (h : IterL ek ev w r b l) (e : w'.heap[r]? = w.heap[r]?) (e2 : w'.heap[b]? = w.heap[b]?) : IterL ek ev w' r b l :=
  let ⟨seen, c, es, h1, h2, h3⟩ := h.ex; ⟨seen, c, es, e.trans h1, e2.trans h2, h3⟩
theorem IterL.ext {w w' : World} {r b : Nat} {l : List (κ × ν)} (h : IterL ek ev w r b l) (hx : Ext w w') : IterL ek ev w' r b l := h.same (Below.block hx r h.ltr) (Below.block hx b h.ltb)
theorem IterL.chg {S : Nat → Prop} {w w' : World} {r b : Nat} {l : List (κ × ν)} (h : IterL ek ev w r b l) (hx : Chg S w w') (hr : ¬ S r) (hb : ¬ S b) : IterL ek ev w' r b l := h.same (hx.block r h.ltr hr) (hx.block b h.ltb hb)
theorem run_rangeL {t e : TypeId} (ht : P.underlying t = some (.map T e)) {w : World} {b : Nat} {l : List (κ × ν)} (h : MapL ek ev w b l) :
    ∃ o, (Instr.range t (.map (some b))).run P w = .ok (.pointer (some ⟨w.heap.size, 0, none⟩)) (w.alloc o) ∧ IterL ek ev (w.alloc o) w.heap.size b l := by
  obtain ⟨es, clock, h1, h2, h3, h4, h5⟩ := h.ex
  have hb := (Array.getElem?_eq_some_iff.1 h1).1
  refine ⟨.mapIter (some b) clock #[] clock, ?_, #[], clock, es, ?_, ?_, h4, h5, ?_⟩
  · simp [Instr.range, run_underlying ht, getObj, newObj, Sem.run, h1, Result.andThen]
  · show (w.heap.push _)[w.heap.size]? = _
    simp
  · show (w.heap.push _)[b]? = _
    rw [Array.getElem?_push_lt hb, ← h1, Array.getElem?_eq_getElem hb]
  · have : leftOf es #[] = es := by unfold leftOf; exact Array.filter_eq_self.2 (by simp)
    rw [this]; exact h2
theorem left_push {es : Array MapEntry} {seen : Array Nat} {e : MapEntry} (hn : (es.toList.map (·.born)).Nodup) (he : e ∈ (leftOf es seen).toList) :
    ∃ pre post, (leftOf es seen).toList = pre ++ e :: post ∧ (leftOf es (seen.push e.born)).toList = pre ++ post := by
  obtain ⟨pre, post, hs⟩ := List.append_of_mem he
  refine ⟨pre, post, hs, ?_⟩
  have hnl : ((leftOf es seen).toList.map (·.born)).Nodup := by
    unfold leftOf
    rw [Array.toList_filter]
    exact List.Sublist.nodup (List.Sublist.map _ List.filter_sublist) hn
  have hf : (leftOf es (seen.push e.born)).toList = (leftOf es seen).toList.filter fun x => !(x.born == e.born) := by
    unfold leftOf
    rw [Array.toList_filter, Array.toList_filter, List.filter_filter]
    refine List.filter_congr fun x _ => ?_
    simp only [Array.contains_push, Bool.not_or]
    rw [Bool.and_comm]
  rw [hf, hs, List.filter_append, List.filter_cons, if_neg (by simp)]
  rw [hs] at hnl
  simp only [List.map_append, List.map_cons] at hnl
  obtain ⟨_, h2, h3⟩ := List.nodup_append.1 hnl
  rw [List.nodup_cons] at h2
  congr 1
  · refine List.filter_eq_self.2 fun x hx => ?_
    have := h3 x.born (List.mem_map.2 ⟨x, hx, rfl⟩) e.born (by simp)
    simpa using this
  · refine List.filter_eq_self.2 fun x hx => ?_
    have : x.born ≠ e.born := fun h => h2.1 (List.mem_map.2 ⟨x, hx, h⟩)
    simpa using this
theorem run_nextL {w : World} {r b : Nat} {left : List (κ × ν)} (h : IterL ek ev w r b left) (ty : TypeId) :
    (left = [] ∧ (Instr.next (.pointer (some ⟨r, 0, none⟩)) false ty).run P w = .ok (.tuple #[.bool false]) w) ∨
    ∃ pre x post w', left = pre ++ x :: post ∧ (Instr.next (.pointer (some ⟨r, 0, none⟩)) false ty).run P w = .ok (.tuple #[.bool true, ek x.1, ev x.2]) w' ∧ IterL ek ev w' r b (pre ++ post) ∧ Chg (· = r) w w' ∧
      (Instr.entry (.pointer (some ⟨r, 0, none⟩))).run P w' = .ok (.tuple #[ek x.1, ev x.2]) w' := by
  obtain ⟨seen, c, es, h1, h2, h3, h4, h5⟩ := h.ex
  have hr := (Array.getElem?_eq_some_iff.1 h1).1
  have hne : r ≠ b := fun e => by subst e; rw [h1] at h2; cases h2
  rcases run_next_at (P := P) w ty r b c c seen es c h1 h2 h3 (Nat.le_refl _) with ⟨h0, hrun⟩ | ⟨e, he, w1, hw1, hrun⟩
  · left
    refine ⟨?_, hrun⟩
    have := congrArg List.length h5
    simp only [List.length_map, Array.length_toList, h0] at this
    exact List.length_eq_zero_iff.1 this.symm
  · right
    obtain ⟨pre', post', hs, hp⟩ := left_push h4 he
    rw [hs] at h5
    simp only [List.map_append, List.map_cons] at h5
    obtain ⟨pre, rest, e1, e2, e3⟩ := List.map_eq_append_iff.1 h5.symm
    obtain ⟨x, post, e4, e5, e6⟩ := List.map_eq_cons_iff.1 e3
    subst e1 e4
    simp only [entE, encE, Prod.mk.injEq] at e5
    have hc : Chg (· = r) w w1 := by rcases hw1 with rfl | rfl; exact Chg.refl _ _; exact (Chg.refl _ _).drew
    have hk : w1.heap = w.heap := by rcases hw1 with rfl | rfl <;> rfl
    have hem := (mem_left he).1
    refine ⟨pre, x, post, setBlock w1 r (.mapIter (some b) c (seen.push e.born) c), rfl, ?_, ⟨seen.push e.born, c, es, ?_, ?_, h3, h4, ?_⟩, hc.trans (chg_setBlock _), ?_⟩
    · rw [hrun, ← e5.1, ← e5.2]
    · simp [setBlock, hk, hr]
    · show (w1.heap.setIfInBounds r _)[b]? = _
      rw [Array.getElem?_setIfInBounds_ne hne, hk, h2]
    · rw [hp, List.map_append, List.map_append, e2, e6]
    · rw [e5.1, e5.2]
      refine run_entry_at _ r b c seen es c e ?_ ?_ hem h4
      · simp [setBlock, hk, hr]
      · show (w1.heap.setIfInBounds r _)[b]? = _
        rw [Array.getElem?_setIfInBounds_ne hne, hk, h2]
theorem wp_nextL {w : World} {ops : Array Oper} {rest : List Oper} {o : Oper} {a : Act} {Q : Exit → Act → World → Prop} (hg : o.guard = none) (it : Operand) (hop : o.op = Op.next it false) (r b : Nat) (left : List (κ × ν)) (hit : a.eval it = .pointer (some ⟨r, 0, none⟩)) (h : IterL ek ev w r b left)
    (hDone : left = [] → wpList P ops Q rest (a.put o.dst (.tuple #[.bool false])) w)
    (hMore : ∀ (x : κ) (y : ν) pre post w', left = pre ++ (x, y) :: post → IterL ek ev w' r b (pre ++ post) → Chg (· = r) w w' → (Instr.entry (.pointer (some ⟨r, 0, none⟩))).run P w' = .ok (.tuple #[ek x, ev y]) w' → wpList P ops Q rest (a.put o.dst (.tuple #[.bool true, ek x, ev y])) w') : wpList P ops Q (o :: rest) a w := by
  refine wpList_plain hg fun K hK => ?_
  unfold Oper.wp
  rcases run_nextL h o.type with ⟨h0, hrun⟩ | ⟨pre, x, post, w', h1, hrun, h2, h3, h4⟩
  · simp [execOp, hop, hit, Result.andThen]
    rw [hrun]
    exact hK _ _ (hDone h0)
  · simp [execOp, hop, hit, Result.andThen]
    rw [hrun]
    exact hK _ _ (hMore x.1 x.2 pre post w' h1 h2 h3 h4)
theorem wp_putL [DecidableEq κ] (KL : KeyL P T ek G) {t e : TypeId} (ht : P.underlying t = some (.map T e)) {w : World} {ops : Array Oper} {rest : List Oper} {o : Oper} {a : Act} {Q : Exit → Act → World → Prop} (hg : o.guard = none) (m x v : Operand) (hop : o.op = Op.mapUpdate t m x v) (b : Nat) (l : List (κ × ν)) (k : κ) (y : ν)
    (hm : a.eval m = .map (some b)) (h : MapL ek ev w b l) (hG : G w) (hx : a.eval x = ek k) (hv : a.eval v = ev y) (hK' : ∀ w', MapL ek ev w' b (putL l k y) → Chg (· = b) w w' → wpList P ops Q rest (a.put o.dst undef) w') : wpList P ops Q (o :: rest) a w := by
  refine wpList_plain hg fun K hK => ?_
  obtain ⟨w', hrun, h1, h2⟩ := run_put KL ht h hG k y
  unfold Oper.wp
  simp [execOp, hop, hm, hx, hv, hrun, Result.andThen]
  exact hK _ _ (hK' w' h1 h2)
/-- How many are still to come. -/
def itLeft (w : World) (r b : Nat) : Nat := match w.heap[r]?, w.heap[b]? with
  | some (.mapIter _ _ seen _), some (.map es _) => (leftOf es seen).size
  | _, _ => 0
theorem IterL.count {w : World} {r b : Nat} {l : List (κ × ν)} (h : IterL ek ev w r b l) : itLeft w r b = l.length := by
  obtain ⟨seen, c, es, h1, h2, _, _, h5⟩ := h.ex
  unfold itLeft
  rw [h1, h2]
  have := congrArg List.length h5
  simpa using this
end
end Go.Proofs.Ytpifdeglhalefaa
