/-
  The reference's leg, as data: what it keeps beside the state; when it ends. No walk here.
-/
import Derived.Test.YtocnglplhnhllaaRfg
import Derived.Test.YtocnglplhnhllaaOfi
namespace Go.Proofs.Ytocnglplhnhllaa
open Go.RowKit
/-- Who has ended, and with how many darts. -/
def EndR (f : Int → Option Int) (E ls : List Int) : Prop := ∀ x, f x = if x ∈ E then some (ls.getD x.toNat 0) else none
structure RefI (r : Rul) (g : Gm) (E ls : List Int) (k : Nat) : Prop where
  len : ls.length = 8
  ended : g.over = false → EndR g.ended E ls
  solo : g.over = false → r.equal = false → E = []
  mem : ∀ x ∈ E, 0 ≤ x ∧ x < r.counts.length
  short : E.length ≤ k
  lasts : ∀ x ∈ ls, 0 ≤ x ∧ x ≤ 3
def endE (E : List Int) (i : Nat) (x : Thr) : List Int := if x.won = true then E ++ [(i : Int)] else E
def endL (ls : List Int) (i : Nat) (x : Thr) : List Int := if x.won = true then ls.set i x.darts else ls
theorem EndR.put {f : Int → Option Int} {E ls : List Int} (h : EndR f E ls) {i : Nat} (hi : i < ls.length) (hm : ∀ x ∈ E, 0 ≤ x) (x : Thr) : EndR (wonF f i x) (endE E i x) (endL ls i x) := by
  intro y
  unfold wonF endE endL
  by_cases hw : x.won = true
  · rw [if_pos hw, if_pos hw, if_pos hw]
    unfold updF
    by_cases hy : y = (i : Int)
    · subst hy
      rw [if_pos rfl, if_pos (by simp)]
      simp [hi]
    · rw [if_neg hy, h y]
      by_cases hE : y ∈ E
      · have h0 := hm y hE
        rw [if_pos hE, if_pos (by simp [hE])]
        have : i ≠ y.toNat := by omega
        simp [List.getD_eq_getElem?_getD, this]
      · rw [if_neg hE, if_neg (by simp [hE, hy])]
  · rw [if_neg hw, if_neg hw, if_neg hw]
    exact h y
theorem EndR.has {f : Int → Option Int} {E ls : List Int} (h : EndR f E ls) {n : Nat} (hm : ∀ x ∈ E, 0 ≤ x ∧ x < n) : hasF n f = decide (0 < E.length) := by
  rw [Bool.eq_iff_iff, decide_eq_true_iff]
  unfold hasF
  rw [List.any_eq_true]
  constructor
  · rintro ⟨p, hp, h1⟩
    rw [h] at h1
    split at h1
    · rename_i h2; exact List.length_pos_of_mem h2
    · cases h1
  · intro hl
    obtain ⟨x, hx⟩ := List.exists_mem_of_length_pos hl
    have := hm x hx
    refine ⟨x.toNat, List.mem_range.2 (by omega), ?_⟩
    rw [show ((x.toNat : Nat) : Int) = x by omega, h, if_pos hx]
    rfl
theorem winS_single {n i : Nat} {f : Int → Option Int} {c : Int} (hi : i < n) (hc : c ≤ 1002) (h : ∀ x, f x = if x = (i : Int) then some c else none) : winS n f = [(i : Int)] := by
  have hl : leastF n f = c := by
    obtain ⟨h1, h2, h3⟩ := leastF_le (n := n) (f := f)
    have h4 := h2 i hi c (by rw [h, if_pos rfl])
    rcases h3 with h3 | ⟨j, hj, h3⟩
    · omega
    · rw [h] at h3
      split at h3
      · exact (Option.some.inj h3).symm
      · cases h3
  unfold winS
  rw [hl]
  have key : ∀ m, m ≤ n → ((List.range m).map fun (p : Nat) => (p : Int)).filter (fun p => f p == some c) = if i < m then [(i : Int)] else [] := by
    intro m
    induction m with
    | zero => intro _; rfl
    | succ m ih =>
      intro hm
      rw [List.range_succ, List.map_append, List.filter_append, ih (by omega)]
      by_cases e : m = i
      · subst e
        simp [h]
      · have e' : ¬ ((m : Int) = (i : Int)) := by omega
        by_cases h1 : i < m
        · simp [h, e', h1, show i < m + 1 by omega]
        · simp [h, e', h1, show ¬ i < m + 1 by omega]
  rw [key n (Nat.le_refl _), if_pos hi]
def lastN (n : Nat) (ls : List Int) : List Int := (List.range n).map fun p => ls.getD p 0
theorem lastN_length (n : Nat) (ls : List Int) : (lastN n ls).length = n := by simp [lastN]
theorem lastN_succ (n : Nat) (ls : List Int) : lastN (n + 1) ls = lastN n ls ++ [ls.getD n 0] := by simp [lastN, List.range_succ]
theorem pickF_last {f : Int → Option Int} {E ls : List Int} (h : EndR f E ls) {n : Nat} (hm : ∀ x ∈ E, 0 ≤ x ∧ x < n) : pickF E (lastN n ls) = f := by
  funext x
  rw [h x]
  by_cases hx : x ∈ E
  · rw [if_pos hx]
    have h0 := hm x hx
    rw [pickF_of hx (by rw [lastN_length]; exact h0)]
    simp [lastN]
  · rw [if_neg hx]
    unfold pickF
    rw [if_neg]
    intro ha
    obtain ⟨y, hy, e⟩ := List.any_eq_true.1 ha
    obtain rfl : y = x := by simpa using e
    exact hx hy
theorem pickF_all (ns : List Int) : pickF (upto ns.length) ns = leftF ns ns.length := by
  funext x
  unfold pickF
  split
  · rfl
  · rename_i ha
    unfold leftF
    rw [if_neg]
    intro h0
    apply ha
    rw [List.any_eq_true]
    refine ⟨x, ?_, by simp⟩
    simp only [upto, List.mem_map, List.mem_range]
    exact ⟨x.toNat, by omega, by omega⟩
/-- How a leg ends behind a visit. -/
inductive FinR (r : Rul) (g : Gm) (E ls : List Int) : Prop
  | first (h : 0 < E.length) (he : r.equal = false) (hf : g.fin r = { g with next := -1, over := true, winners := winS r.counts.length (pickF E g.left) })
  | round (h : 0 < E.length) (he : r.equal = true) (hd : g.done = 0) (hf : g.fin r = { g with next := -1, over := true, winners := winS r.counts.length (pickF E (lastN r.counts.length ls)) })
  | last (h : E.length = 0) (hd : g.done = 0) (hr : g.round = r.rounds) (hf : g.fin r = { g with next := -1, over := true, winners := winS r.counts.length (pickF (upto r.counts.length) g.left) })
  | on (h : E.length = 0 ∨ (r.equal = true ∧ g.done ≠ 0)) (hd : g.done ≠ 0 ∨ g.round ≠ r.rounds) (hf : g.fin r = g)
theorem finR {r : Rul} {g : Gm} {E ls : List Int} (h : EndR g.ended E ls) (hm : ∀ x ∈ E, 0 ≤ x ∧ x < r.counts.length) (hl : g.left.length = r.counts.length) (hg : ∀ x ∈ g.left, 0 ≤ x ∧ x ≤ 1001) (hls : ∀ x ∈ ls, 0 ≤ x ∧ x ≤ 3) (hs : r.equal = false → E.length ≤ 1) : FinR r g E ls := by
  have hh := h.has hm
  by_cases hE : 0 < E.length
  · cases he : r.equal
    · refine .first hE he ?_
      unfold Gm.fin endS
      rw [hh, if_pos ⟨by simp [hE], .inr he⟩]
      simp only
      congr 1
      obtain ⟨i, hi⟩ : ∃ i, E = [i] := List.length_eq_one_iff.1 (by have := hs he; omega)
      subst hi
      have hi := hm i (by simp)
      obtain ⟨j, rfl⟩ : ∃ j : Nat, i = j := ⟨i.toNat, by omega⟩
      have hj : j < r.counts.length := by omega
      rw [winS_single hj (c := ls.getD j 0) ?_ (fun x => by rw [h x]; by_cases e : x = (j : Int); subst e; simp; simp [e]), winS_single hj (c := g.left[j]'(by omega)) (by have := hg _ (List.getElem_mem (by omega : j < g.left.length)); omega) (fun x => ?_)]
      · by_cases e : x = (j : Int)
        · subst e
          rw [if_pos rfl, pickF_of (by simp) (by omega)]
          simp
        · rw [if_neg e]
          unfold pickF
          rw [if_neg]
          simp [Ne.symm e]
      · rw [List.getD_eq_getElem?_getD]
        cases hq : ls[j]? with
        | none => simp
        | some y => have := hls y (List.mem_of_getElem? hq); simp; omega
    · by_cases hd : g.done = 0
      · refine .round hE he hd ?_
        unfold Gm.fin endS
        rw [hh, if_pos ⟨by simp [hE], .inl (by simp [hd])⟩, pickF_last h hm]
      · refine .on (.inr ⟨he, hd⟩) (.inl hd) ?_
        unfold Gm.fin endS
        rw [if_neg (by simp [he, hd]), if_neg (by simp [hd])]
  · by_cases hd : g.done = 0
    · by_cases hr : g.round = r.rounds
      · refine .last (by omega) hd hr ?_
        unfold Gm.fin endS
        rw [hh, if_neg (by simp [hE]), if_pos (by simp [hd, hr]), ← hl, pickF_all]
      · refine .on (.inl (by omega)) (.inr hr) ?_
        unfold Gm.fin endS
        rw [hh, if_neg (by simp [hE]), if_neg (by simp [hr])]
    · refine .on (.inl (by omega)) (.inl hd) ?_
      unfold Gm.fin endS
      rw [hh, if_neg (by simp [hE]), if_neg (by simp [hd])]
/-- Append of a whole slice that may be nil, and where the new one lies. -/
theorem wp_append_vals_at {P : Program} {w : World} {ops : Array Oper} {rest : List Oper} {o : Oper} {a : Act} {Q : Exit → Act → World → Prop} (hgd : o.guard = none) (s x : Operand) (t e : TypeId) (z : Value) (size bytes : Nat)
    (ho : o.op = .call { callee := .builtin .append, args := #[s, x], argTypes := #[t, t] }) (hinfo : (P.info? e).map (fun i => (i.zero, i.size, i.bytes)) = some (some z, size, bytes)) (ht : P.underlying t = some (.slice e)) (hzs : z.cells.size = size) (hpos : 0 < size)
    (base : Nat) (v : Value) (n : Nat) (xs : List Value) (hs : a.eval s = v) (hown : w.ownsRow base e size v n xs) (ya : Option Addr) (m c : Nat) (news : List Value) (hx : a.eval x = .slice ya m c) (hnil : ya = none → m = 0 ∧ c = 0)
    (hl : news.length = m * size) (hc : ∀ ad, ya = some ad → ∀ j u, news[j]? = some u → w.cell? (ad.add j) = some u) (h1 : ∀ u ∈ news, u.oneCell' = true) (hsz : n + m ≤ 1000000000) (hby : bytes ≤ 100000) (hbase : base ≤ w.heap.size)
    (h : ∀ v' w', w'.ownsRow base e size v' (n + m) (xs ++ news) → w.grownBy w' v.ownBlock → (v'.ownBlock = v.ownBlock ∨ v'.ownBlock = some w.heap.size) → wpList P ops Q rest (a.put o.dst v') w') : wpList P ops Q (o :: rest) a w := by
  obtain ⟨i0, hi, hz0, hz1, hz2⟩ := info_parts hinfo
  cases ya with
  | none =>
    obtain ⟨rfl, rfl⟩ := hnil rfl
    have : news = [] := List.length_eq_zero_iff.1 (by simpa using hl)
    subst this
    exact wpList_append_own_none hgd s x t ho base e i0 size ht hi v n xs hs hown hx (h v w (by simpa using hown) (World.grownBy.refl _ _) (.inl rfl))
  | some ad =>
    refine wpList_append_own_at w hgd s x t ho base e i0 z size bytes ht hi hz0 hz1 hz2 hzs hpos v n xs hs hown ad m c news hx hl (hc ad rfl) h1 (by unfold maxLen; omega) ?_ hbase (fun v' w' h1 h2 _ h4 => h v' w' h1 h2 h4)
    exact Nat.le_trans (Nat.mul_le_mul (by omega : n + m ≤ 1000000000) hby) (by decide)
theorem BoolsAt.vals {w : World} {a : Option Addr} {xs : List Bool} (h : BoolsAt w a xs) : ∀ ad, a = some ad → ∀ j u, (xs.map Value.bool)[j]? = some u → w.cell? (ad.add j) = some u := by
  intro ad ha j u hu
  rw [List.getElem?_map, Option.map_eq_some_iff] at hu
  obtain ⟨x, hx, rfl⟩ := hu
  obtain ⟨hj, rfl⟩ := List.getElem?_eq_some_iff.1 hx
  obtain ⟨b, o, e, hc⟩ := h j hj
  rw [ha] at e
  cases e
  rw [addr_add]; exact hc
theorem bools_one (xs : List Bool) : ∀ u ∈ xs.map Value.bool, u.oneCell' = true := by
  intro u hu
  obtain ⟨x, _, rfl⟩ := List.mem_map.1 hu
  rfl
/-- While the lists of a leg are copied. -/
structure CpG (S4 N : Nat) (cs : Value → Value → Value → Array Value) (lv dv iv : Value) (left darts : List Int) (inn : List Bool) (L : Nat → Bool) (u : Nat → Value) (w : World) : Prop where
  blk : Blk w S4 (cs (bif L 14 then u 3 else lv) (bif L 17 then u 7 else dv) (bif L 20 then u 11 else iv))
  o0 : L 0 = true → L 3 = false → w.ownsRow N 3 1 (u 0) 0 []
  o3 : L 3 = true → OwnI w N (u 3) left
  o4 : L 4 = true → L 7 = false → w.ownsRow N 3 1 (u 4) 0 []
  o7 : L 7 = true → OwnI w N (u 7) darts
  o8 : L 8 = true → L 11 = false → w.ownsRow N 4 1 (u 8) 0 []
  o11 : L 11 = true → OwnB w N (u 11) inn
  dis : L 0 = true → L 4 = true → ∀ g, (bif L 3 then u 3 else u 0).ownBlock = some g → (bif L 7 then u 7 else u 4).ownBlock ≠ some g
theorem CpG.mono {S4 N : Nat} {cs : Value → Value → Value → Array Value} {lv dv iv : Value} {left darts : List Int} {inn : List Bool} {L : Nat → Bool} {u : Nat → Value} {w w' : World} (h : CpG S4 N cs lv dv iv left darts inn L u w) (hx : Ext w w') : CpG S4 N cs lv dv iv left darts inn L u w' :=
  ⟨h.blk.ext hx, fun a b => own_chg (h.o0 a b) (hx.chg fun _ => False) (fun _ _ => id), fun a => (h.o3 a).ext hx, fun a b => own_chg (h.o4 a b) (hx.chg fun _ => False) (fun _ _ => id), fun a => (h.o7 a).ext hx, fun a b => own_chg (h.o8 a b) (hx.chg fun _ => False) (fun _ _ => id), fun a => (h.o11 a).ext hx, h.dis⟩
theorem CpG.lt1 {S4 N : Nat} {cs : Value → Value → Value → Array Value} {lv dv iv : Value} {left darts : List Int} {inn : List Bool} {L : Nat → Bool} {u : Nat → Value} {w : World} (h : CpG S4 N cs lv dv iv left darts inn L u w) (h0 : L 0 = true) : ∀ g, (bif L 3 then u 3 else u 0).ownBlock = some g → N ≤ g ∧ g < w.heap.size := by
  cases h3 : L 3
  · exact own_lt (h.o0 h0 h3)
  · exact own_lt (h.o3 h3)
theorem CpG.lt2 {S4 N : Nat} {cs : Value → Value → Value → Array Value} {lv dv iv : Value} {left darts : List Int} {inn : List Bool} {L : Nat → Bool} {u : Nat → Value} {w : World} (h : CpG S4 N cs lv dv iv left darts inn L u w) (h0 : L 4 = true) : ∀ g, (bif L 7 then u 7 else u 4).ownBlock = some g → N ≤ g ∧ g < w.heap.size := by
  cases h3 : L 7
  · exact own_lt (h.o4 h0 h3)
  · exact own_lt (h.o7 h3)
/-- What only touches blocks of one's own, not those of the lists of numbers, leaves it. -/
theorem CpG.chg {S4 N : Nat} {cs : Value → Value → Value → Array Value} {lv dv iv : Value} {left darts : List Int} {inn : List Bool} {L : Nat → Bool} {u : Nat → Value} {w w' : World} (h : CpG S4 N cs lv dv iv left darts inn L u w) {S : Nat → Prop} (hx : Chg S w w') (hb : ¬ S S4)
    (h1 : ∀ g, N ≤ g → g < w.heap.size → ¬ S g) : CpG S4 N cs lv dv iv left darts inn L u w' :=
  ⟨h.blk.chg hx hb, fun a b => own_chg (h.o0 a b) hx (fun g hg => by have := own_lt (h.o0 a b) g hg; exact h1 g this.1 this.2), fun a => (h.o3 a).chg hx (fun g hg => by have := own_lt (h.o3 a) g hg; exact h1 g this.1 this.2),
    fun a b => own_chg (h.o4 a b) hx (fun g hg => by have := own_lt (h.o4 a b) g hg; exact h1 g this.1 this.2), fun a => (h.o7 a).chg hx (fun g hg => by have := own_lt (h.o7 a) g hg; exact h1 g this.1 this.2),
    fun a b => own_chg (h.o8 a b) hx (fun g hg => by have := own_lt (h.o8 a b) g hg; exact h1 g this.1 this.2), fun a => (h.o11 a).chg hx (fun g hg => by have := own_lt (h.o11 a) g hg; exact h1 g this.1 this.2), h.dis⟩
structure CpR (n k : Nat) (v : Value) : Prop where
  one : k = 0 ∨ k = 4 ∨ k = 8 → ∃ k, v = .slice (some ⟨k, 0, none⟩) 0 0
  app : k = 3 ∨ k = 7 ∨ k = 11 → ∃ a c, v = .slice a n c
/-- While what a player has left is written. -/
structure SeG (N gl gi n cl ci i : Nat) (left : List Int) (xl : Int) (inn : List Bool) (xi : Bool) (L : Nat → Bool) (w : World) : Prop where
  left : OwnI w N (.slice (some ⟨gl, 0, none⟩) n cl) (bif L 15 then left.set i xl else left)
  inn : OwnB w N (.slice (some ⟨gi, 0, none⟩) n ci) (bif L 17 then inn.set i xi else inn)
/-- While one more is put to those who have ended. -/
structure EnG (S4 M : Nat) (cs : Value → Array Value) (ev : Value) (E : List Int) (i : Int) (L : Nat → Bool) (u : Nat → Value) (w : World) : Prop where
  blk : Blk w S4 (cs (bif L 9 then u 7 else ev))
  o0 : L 0 = true → L 3 = false → w.ownsRow M 3 1 (u 0) 0 []
  o3 : L 3 = true → L 7 = false → OwnI w M (u 3) E
  o7 : L 7 = true → OwnI w M (u 7) (E ++ [i])
  box : L 6 = true → L 7 = false → ∃ k, u 6 = .slice (some ⟨k, 0, none⟩) 1 1 ∧ w.heap[k]? = some (.cells #[.int .i64 i] 3 (0, 0))
  dis : L 0 = true → L 6 = true → ∀ g, (bif L 3 then u 3 else u 0).ownBlock = some g → (u 6).ownBlock ≠ some g
theorem EnG.mono {S4 M : Nat} {cs : Value → Array Value} {ev : Value} {E : List Int} {i : Int} {L : Nat → Bool} {u : Nat → Value} {w w' : World} (h : EnG S4 M cs ev E i L u w) (hx : Ext w w') : EnG S4 M cs ev E i L u w' :=
  ⟨h.blk.ext hx, fun a b => own_chg (h.o0 a b) (hx.chg fun _ => False) (fun _ _ => id), fun a b => (h.o3 a b).ext hx, fun a => (h.o7 a).ext hx, fun a b => let ⟨k, h1, h2⟩ := h.box a b; ⟨k, h1, hx.heap h2⟩, h.dis⟩
theorem EnG.lt1 {S4 M : Nat} {cs : Value → Array Value} {ev : Value} {E : List Int} {i : Int} {L : Nat → Bool} {u : Nat → Value} {w : World} (h : EnG S4 M cs ev E i L u w) (h0 : L 0 = true) (h7 : L 7 = false) : ∀ g, (bif L 3 then u 3 else u 0).ownBlock = some g → M ≤ g ∧ g < w.heap.size := by
  cases h3 : L 3
  · exact own_lt (h.o0 h0 h3)
  · exact own_lt (h.o3 h3 h7)
structure EnR (m : Nat) (ev : Value) (k : Nat) (v : Value) : Prop where
  one : k = 0 → ∃ k, v = .slice (some ⟨k, 0, none⟩) 0 0
  load : k = 2 → v = ev
  app : k = 3 → ∃ a c, v = .slice a m c
  box : k = 6 → ∃ k, v = .slice (some ⟨k, 0, none⟩) 1 1
  fin : k = 7 → ∃ a c, v = .slice a (m + 1) c
theorem own_nil0 {w : World} {base s n c : Nat} {e : TypeId} {a : Option Addr} {xs : List Value} (h : w.ownsRow base e s (.slice a n c) n xs) : a = none → n = 0 ∧ c = 0 := by
  rintro rfl
  obtain ⟨_, ⟨e, h2⟩ | ⟨g, cap, cur, e, _⟩⟩ := h
  · injection e with _ e2 e3; exact ⟨e2, e3⟩
  · cases e
theorem CellsAt.chg {w w' : World} {S : Nat → Prop} {k : IntKind} {a : Option Addr} {xs : List Int} (h : CellsAt w k a xs) (hx : Chg S w w') (hs : 0 < xs.length → ∀ ad, a = some ad → ¬ S ad.block) : CellsAt w' k a xs := fun i hi => by
  obtain ⟨b, o, e, hc⟩ := h i hi
  exact ⟨b, o, e, hx.cell hc (show ¬ S b from hs (by omega) ⟨b, o, none⟩ e)⟩
theorem CellsAt.low {w : World} {k : IntKind} {a : Option Addr} {xs : List Int} (h : CellsAt w k a xs) : 0 < xs.length → ∀ ad, a = some ad → ad.block < w.heap.size := fun h0 ad e => by
  obtain ⟨b, o, e', hc⟩ := h 0 h0
  rw [e] at e'
  cases e'
  exact lt_of_cell hc
theorem endE_mem {E : List Int} {i n : Nat} {x : Thr} (h : ∀ y ∈ E, 0 ≤ y ∧ y < n) (hi : i < n) : ∀ y ∈ endE E i x, 0 ≤ y ∧ y < n := by
  intro y hy
  unfold endE at hy
  split at hy
  · rcases List.mem_append.1 hy with hy | hy
    · exact h y hy
    · rw [List.mem_singleton.1 hy]; omega
  · exact h y hy
theorem endE_length (E : List Int) (i : Nat) (x : Thr) : (endE E i x).length ≤ E.length + 1 := by
  unfold endE
  split
  · simp
  · omega
theorem endL_length (ls : List Int) (i : Nat) (x : Thr) : (endL ls i x).length = ls.length := by
  unfold endL
  split <;> simp
theorem endL_mem {ls : List Int} {i : Nat} {x : Thr} (h : ∀ y ∈ ls, 0 ≤ y ∧ y ≤ 3) (hx : 0 ≤ x.darts ∧ x.darts ≤ 3) : ∀ y ∈ endL ls i x, 0 ≤ y ∧ y ≤ 3 := by
  intro y hy
  unfold endL at hy
  split at hy
  · rcases List.mem_or_eq_of_mem_set hy with hy | rfl
    · exact h y hy
    · exact hx
  · exact h y hy
theorem step_fin {r : Rul} {g : Gm} {E ls : List Int} {k i : Nat} {x : Thr} (hI : RefI r g E ls k) (hO : g.Ok r k) (hov : g.over = false) (hi : i < r.counts.length) (h8 : r.counts.length ≤ 8) (hx : (0 ≤ x.left ∧ x.left ≤ 1001) ∧ (0 ≤ x.darts ∧ x.darts ≤ 3)) :
    FinR r (g.put r i x) (endE E i x) (endL ls i x) ∧ RefI r ((g.put r i x).fin r) (endE E i x) (endL ls i x) (k + 1) := by
  have hok := hO.put hi hx
  have he : EndR (g.put r i x).ended (endE E i x) (endL ls i x) := (hI.ended hov).put (by rw [hI.len]; omega) (fun y hy => (hI.mem y hy).1) x
  have hm := endE_mem (x := x) hI.mem hi
  have hl := endL_mem (i := i) hI.lasts hx.2
  have hF : FinR r (g.put r i x) (endE E i x) (endL ls i x) := finR he hm hok.left hok.lefts hl (fun h => by have := endE_length E i x; rw [hI.solo hov h] at this ⊢; simpa using this)
  refine ⟨hF, ?_⟩
  refine ⟨by rw [endL_length]; exact hI.len, fun h => ?_, fun h h2 => ?_, hm, by have := endE_length E i x; have := hI.short; omega, hl⟩
  · cases hF with
    | first _ _ hf => rw [hf] at h; cases h
    | round _ _ _ hf => rw [hf] at h; cases h
    | last _ _ _ hf => rw [hf] at h; cases h
    | on _ _ hf => rw [hf]; exact he
  · cases hF with
    | first _ _ hf => rw [hf] at h; cases h
    | round _ _ _ hf => rw [hf] at h; cases h
    | last _ _ _ hf => rw [hf] at h; cases h
    | on h0 _ hf =>
      rcases h0 with h0 | ⟨h0, _⟩
      · exact List.length_eq_zero_iff.1 h0
      · rw [h2] at h0; cases h0
end Go.Proofs.Ytocnglplhnhllaa
