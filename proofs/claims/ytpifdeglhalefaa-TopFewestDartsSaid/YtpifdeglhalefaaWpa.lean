/-
  Ways out are played, plain: a way wins the leg with its last dart, and not before.
-/
import Derived.Test.YtpifdeglhalefaaPla
import Derived.Test.YtpifdeglhalefaaOwa
namespace Go.Proofs.Ytpifdeglhalefaa
open Go.RowKit
/-- A list of beds goes from a score to its end, without a bust. -/
def wayW (g : Int) : Int → List Int → Bool
  | s, [] => decide (s = 0)
  | s, x :: l => aftB g s x && (decide (0 < s) && wayW g (s - wrt x) l)
theorem thwW_mem {g : Int} {beds : List Int} {s : Int} {p : Int × Int} : p ∈ thwO g beds s ↔ ∃ x ∈ beds, aftB g s x = true ∧ 0 < s ∧ p = (x, s - wrt x) := by
  unfold thwO
  simp only [List.mem_map, List.mem_filter, Bool.and_eq_true, decide_eq_true_eq]
  exact ⟨fun ⟨x, ⟨h1, h2, h3⟩, h4⟩ => ⟨x, h1, h2, h3, h4.symm⟩, fun ⟨x, h1, h2, h3, h4⟩ => ⟨x, ⟨h1, h2, h3⟩, h4.symm⟩⟩
theorem aftW_le {g s x : Int} (h : aftB g s x = true) : 0 ≤ s - wrt x := by
  unfold aftB at h
  split at h
  · omega
  · split at h
    · omega
    · simp at h; omega
theorem way_mem {g : Int} {beds : List Int} {most darts : Nat} : ∀ (k : Nat) (s : Int) (first l : List Int), k ≤ darts → 0 ≤ s → 0 < (rwO g beds most k).getD s.toNat 0 → l ∈ wayO g beds (rwsO g beds most darts) k s first → ∃ m, l = first ++ m ∧ m.length = k ∧ (∀ x ∈ m, x ∈ beds) ∧ wayW g s m = true
  | 0, s, first, l, _, hs, hp, hl => by
    unfold wayO at hl
    rw [List.mem_singleton] at hl
    have : s = 0 := by
      unfold rwO at hp
      by_cases h0 : s.toNat = 0
      · omega
      · obtain ⟨n, hn⟩ : ∃ n, s.toNat = n + 1 := ⟨s.toNat - 1, by omega⟩
        rw [hn, List.getD_cons_succ, List.getD_eq_getElem?_getD, List.getElem?_replicate] at hp
        split at hp <;> simp at hp
    subst this
    exact ⟨[], by rw [hl, List.append_nil], rfl, (by intro x h; cases h), rfl⟩
  | k + 1, s, first, l, hk, hs, _, hl => by
    unfold wayO at hl
    obtain ⟨p, hp, hm⟩ := List.mem_flatMap.1 hl
    rw [rwsO_at (by omega)] at hm
    obtain ⟨x, hx, h1, h2, rfl⟩ := thwW_mem.1 hp
    by_cases hc : 0 < (rwO g beds most k).getD (s - wrt x).toNat 0
    · rw [if_pos hc] at hm
      obtain ⟨m, e1, e2, e3, e4⟩ := way_mem k (s - wrt x) (first ++ [x]) l (by omega) (aftW_le h1) hc hm
      refine ⟨x :: m, by rw [e1, List.append_assoc]; rfl, by rw [List.length_cons, e2], fun y hy => ?_, ?_⟩
      · rcases List.mem_cons.1 hy with rfl | hy
        · exact hx
        · exact e3 y hy
      · unfold wayW
        simp only [Bool.and_eq_true, decide_eq_true_eq]
        exact ⟨h1, h2, e4⟩
    · rw [if_neg hc] at hm
      cases hm
theorem all_way {g : Int} {beds : List Int} {most darts s : Nat} {l : List Int} (h : l ∈ allO g beds (rwsO g beds most darts) darts s) : 1 ≤ l.length ∧ l.length ≤ darts ∧ (∀ x ∈ l, x ∈ beds) ∧ wayW g s l = true := by
  unfold allO at h
  obtain ⟨k, hk, hm⟩ := List.mem_flatMap.1 h
  have hk := List.mem_range.1 hk
  rw [rwsO_at (by omega)] at hm
  by_cases hc : 0 < (rwO g beds most (k + 1)).getD s 0
  · rw [if_pos hc] at hm
    obtain ⟨m, e1, e2, e3, e4⟩ := way_mem (k + 1) (s : Int) [] l (by omega) (by omega) (by rw [Int.toNat_natCast]; exact hc) hm
    rw [List.nil_append] at e1
    subst e1
    exact ⟨by omega, by omega, e3, e4⟩
  · rw [if_neg hc] at hm
    cases hm
/-- What a bed is that can be hit. -/
structure BedW (g x : Int) : Prop where
  valid : validB x = true
  ne : x ≠ 0
  opens : opn4 g x = opnO g x
  wrt : 1 ≤ wrt x ∧ wrt x ≤ 100
theorem bed_w {g x : Int} (hg : g = 0 ∨ g = 1 ∨ g = 2) (h : isBedB x = true) : BedW g x := by
  unfold isBedB at h
  simp only [Bool.or_eq_true, beq_iff_eq, Bool.and_eq_true, ins_one] at h
  rcases h with (rfl | rfl) | ⟨h1, h2⟩
  · refine ⟨by decide, by decide, ?_, by decide⟩
    rcases hg with rfl | rfl | rfl <;> decide
  · refine ⟨by decide, by decide, ?_, by decide⟩
    rcases hg with rfl | rfl | rfl <;> decide
  · refine ⟨?_, ?_, ?_, ?_⟩
    · unfold validB
      simp only [Bool.or_eq_true, Bool.and_eq_true, ins_one]
      exact .inr ⟨h1, h2⟩
    · rintro rfl
      have : fct 0 = 0 := by decide
      omega
    · unfold opn4 opnO
      rcases hg with rfl | rfl | rfl
      · rw [if_neg (by decide), if_neg (by decide), if_neg (by decide), if_neg (by decide)]
        exact ins_one.2 h1
      · rw [if_pos rfl, if_pos rfl, Bool.eq_iff_iff, ins_one, beq_iff_eq]
        omega
      · rw [if_neg (by decide), if_pos rfl, if_neg (by decide), if_pos rfl, Bool.eq_iff_iff, ins_one, decide_eq_true_eq]
        omega
    · unfold Go.Proofs.Ytpifdeglhalefaa.wrt
      have h3 : 1 * nmb x ≤ fct x * nmb x := Int.mul_le_mul_of_nonneg_right h1.1 (by omega)
      have h4 : fct x * nmb x ≤ 4 * nmb x := Int.mul_le_mul_of_nonneg_right h1.2 (by omega)
      omega
theorem hit_on2 {g b : Int} {x : Thr} (hb : BedW g b) (hi : x.inn = true) (ha : aftB g x.left b = true) (h0 : x.left - wrt b ≠ 0) : x.hit 0 g b = { x with darts := x.darts + 1, left := x.left - wrt b, inn := true, won := false, bust := false } := by
  unfold Thr.hit
  have hne : (b == 0) = false := by simpa using hb.ne
  rw [if_neg (by simp [hne, hi]), if_neg (by simp [h0]), if_neg]
  unfold aftB at ha
  rw [if_neg h0] at ha
  split at ha
  · rename_i h1
    have hg : g = 0 := by simpa using ha
    simp [h1, hg]
  · have : 1 < x.left - wrt b := by simpa using ha
    simp
    omega
theorem hit_win2 {g b : Int} {x : Thr} (hb : BedW g b) (hi : x.inn = true) (ha : aftB g x.left b = true) (h0 : x.left - wrt b = 0) : x.hit 0 g b = { x with darts := x.darts + 1, left := 0, inn := true, won := true, bust := false } := by
  unfold Thr.hit
  have hne : (b == 0) = false := by simpa using hb.ne
  unfold aftB at ha
  rw [if_pos h0] at ha
  rw [if_neg (by simp [hne, hi]), if_pos (by rw [hb.opens, ha, h0]; rfl), h0]
theorem way_cons {g s x : Int} {l : List Int} (h : wayW g s (x :: l) = true) : aftB g s x = true ∧ 0 < s ∧ wayW g (s - wrt x) l = true := by
  unfold wayW at h
  simpa [Bool.and_eq_true] using h
theorem way_pos {g s : Int} {l : List Int} (h : wayW g s l = true) (hl : l ≠ []) : 0 < s := by
  cases l with
  | nil => exact absurd rfl hl
  | cons x l => exact (way_cons h).2.1
theorem way_nil {g s : Int} (h : wayW g s [] = true) : s = 0 := by
  unfold wayW at h
  simpa using h
theorem thrW_go {g b : Int} {l : List Int} {i : Int} {x : Thr} (hb : BedW g b) (ho : x.over = false) (hi : x.inn = true) (ha : aftB g x.left b = true) (h0 : x.left - wrt b ≠ 0) : thrW 0 g (b :: l) i x = thrW 0 g l (i + 1) { x with darts := x.darts + 1, left := x.left - wrt b, inn := true, won := false, bust := false } := by
  rw [thrW, if_neg (by simp [ho]), if_neg (by simp [hb.valid]), hit_on2 hb hi ha h0]
theorem thrW_win {g b : Int} {i : Int} {x : Thr} (hb : BedW g b) (ho : x.over = false) (hi : x.inn = true) (ha : aftB g x.left b = true) (h0 : x.left - wrt b = 0) : thrW 0 g [b] i x = .inl { x with darts := x.darts + 1, left := 0, inn := true, won := true, bust := false } := by
  rw [thrW, if_neg (by simp [ho]), if_neg (by simp [hb.valid]), hit_win2 hb hi ha h0]
  rfl
/-- Three darts of a way that goes on. -/
theorem thr_three {g x b1 b2 b3 : Int} {l : List Int} (h : wayW g x (b1 :: b2 :: b3 :: l) = true) (hl : l ≠ []) (hb : ∀ b ∈ b1 :: b2 :: b3 :: l, BedW g b) : thr 0 g true x [b1, b2, b3] = (⟨x - wrt b1 - wrt b2 - wrt b3, x - (x - wrt b1 - wrt b2 - wrt b3), 3, true, false, false⟩, -1, 0) ∧ wayW g (x - wrt b1 - wrt b2 - wrt b3) l = true := by
  obtain ⟨a1, -, h1⟩ := way_cons h
  obtain ⟨a2, p2, h2⟩ := way_cons h1
  obtain ⟨a3, p3, h3⟩ := way_cons h2
  have p4 := way_pos h3 hl
  refine ⟨?_, h3⟩
  unfold thr
  rw [thrW_go (hb b1 (by simp)) rfl rfl a1 (by show x - wrt b1 ≠ 0; omega), thrW_go (hb b2 (by simp)) rfl rfl a2 (by simp only; omega), thrW_go (hb b3 (by simp)) rfl rfl a3 (by simp only; omega)]
  rfl
/-- The last darts of a way. -/
theorem thr_last {g x : Int} {l : List Int} (h : wayW g x l = true) (h1 : l ≠ []) (h3 : l.length ≤ 3) (hb : ∀ b ∈ l, BedW g b) : thr 0 g true x l = (⟨0, x - 0, (l.length : Int), true, false, true⟩, -1, 0) := by
  match l, h1, h3 with
  | [b1], _, _ =>
    obtain ⟨a1, -, e1⟩ := way_cons h
    have e1 := way_nil e1
    unfold thr
    rw [thrW_win (hb b1 (by simp)) rfl rfl a1 e1]
    rfl
  | [b1, b2], _, _ =>
    obtain ⟨a1, -, e1⟩ := way_cons h
    obtain ⟨a2, p2, e2⟩ := way_cons e1
    have e2 := way_nil e2
    unfold thr
    rw [thrW_go (hb b1 (by simp)) rfl rfl a1 (by show x - wrt b1 ≠ 0; omega), thrW_win (hb b2 (by simp)) rfl rfl a2 e2]
    rfl
  | [b1, b2, b3], _, _ =>
    obtain ⟨a1, -, e1⟩ := way_cons h
    obtain ⟨a2, p2, e2⟩ := way_cons e1
    obtain ⟨a3, p3, e3⟩ := way_cons e2
    have e3 := way_nil e3
    unfold thr
    rw [thrW_go (hb b1 (by simp)) rfl rfl a1 (by show x - wrt b1 ≠ 0; omega), thrW_go (hb b2 (by simp)) rfl rfl a2 (by simp only; omega), thrW_win (hb b3 (by simp)) rfl rfl a3 e3]
    rfl
/-- One or two darts of a way that goes on are too few. -/
theorem thr_short {g x : Int} {m l : List Int} (h : wayW g x (m ++ l) = true) (hl : l ≠ []) (hm : m.length = 1 ∨ m.length = 2) (hb : ∀ b ∈ m, BedW g b) : thr 0 g true x m = (.zero, -1, 31) := by
  match m, hm with
  | [b1], _ =>
    obtain ⟨a1, -, e1⟩ := way_cons h
    have p1 := way_pos e1 hl
    unfold thr
    rw [thrW_go (hb b1 (by simp)) rfl rfl a1 (by show x - wrt b1 ≠ 0; omega)]
    rfl
  | [b1, b2], _ =>
    obtain ⟨a1, -, e1⟩ := way_cons h
    obtain ⟨a2, p2, e2⟩ := way_cons e1
    have p3 := way_pos e2 hl
    unfold thr
    rw [thrW_go (hb b1 (by simp)) rfl rfl a1 (by show x - wrt b1 ≠ 0; omega), thrW_go (hb b2 (by simp)) rfl rfl a2 (by simp only; omega)]
    rfl
  | [], hm => simp at hm
  | _ :: _ :: _ :: _, hm => simp at hm
/-- The rules for a player alone. -/
def oneR (s g : Int) : Rul := ⟨[⟨s, 0, g⟩], 0, 0, false⟩
theorem oneR_ok {s g : Int} (hs : 2 ≤ s ∧ s ≤ 1001) (hg : g = 0 ∨ g = 1 ∨ g = 2) : (oneR s g).ok = true := by
  unfold Rul.ok oneR
  have h1 : cntB s 0 g = true := by simp only [cntB, Bool.and_eq_true, ins_one]; omega
  simp only [List.length_cons, List.length_nil, List.any_cons, List.any_nil, Cnt.ok, h1, Bool.and_eq_true, ins_one]
  refine ⟨⟨⟨by omega, rfl⟩, by omega⟩, by omega⟩
/-- A player alone, while the leg goes on. -/
structure SoloG (x d j : Int) (gm : Gm) : Prop where
  left : gm.left = [x]
  darts : gm.darts = [d]
  inn : gm.inn = [true]
  next : gm.next = 0
  round : gm.round = j
  over : gm.over = false
  winners : gm.winners = []
  ended : gm.ended = fun _ => none
  done : gm.done = 0
theorem SoloG.begin (s g : Int) : SoloG s 0 0 (.begin (oneR s g)) := ⟨rfl, rfl, rfl, rfl, rfl, rfl, rfl, rfl, rfl⟩
theorem SoloG.chk {s g x d j : Int} {gm : Gm} (h : SoloG x d j gm) : chkS (oneR s g).counts.length gm.next gm.over 0 = 0 := by
  unfold chkS
  rw [h.over, h.next]
  rfl
theorem SoloG.thr {s g x d j : Int} {gm : Gm} (h : SoloG x d j gm) (b : List Int) : gm.thr (oneR s g) ((0 : Int).toNat) b = Go.Proofs.Ytpifdeglhalefaa.thr 0 g true x b := by
  unfold Gm.thr
  rw [h.inn, h.left]
  rfl
theorem SoloG.on {s g x d j y sc : Int} {gm : Gm} {b : List Int} (h : SoloG x d j gm) (hj : 0 ≤ j) (ht : Go.Proofs.Ytpifdeglhalefaa.thr 0 g true x b = (⟨y, sc, 3, true, false, false⟩, -1, 0)) : (gm.step (oneR s g) 0 b).2.2 = 0 ∧ SoloG y (d + 3) (j + 1) (gm.step (oneR s g) 0 b).1 := by
  unfold Gm.step
  rw [h.chk, if_neg (by simp), h.thr, ht, if_neg (by simp)]
  refine ⟨rfl, ?_⟩
  have he : (gm.put (oneR s g) 0 ⟨y, sc, 3, true, false, false⟩).ended = fun _ => none := by
    simp [Gm.put, wonF, h.ended]
  have hr : (gm.put (oneR s g) 0 ⟨y, sc, 3, true, false, false⟩).round = j + 1 := by
    simp only [Gm.put, h.done, h.round]
    rfl
  have hf : (gm.put (oneR s g) 0 ⟨y, sc, 3, true, false, false⟩).fin (oneR s g) = gm.put (oneR s g) 0 ⟨y, sc, 3, true, false, false⟩ := by
    unfold Gm.fin endS
    have hh : hasF (oneR s g).counts.length (gm.put (oneR s g) 0 ⟨y, sc, 3, true, false, false⟩).ended = false := by rw [he]; simp [hasF]
    have hq : ((gm.put (oneR s g) 0 ⟨y, sc, 3, true, false, false⟩).round == (oneR s g).rounds) = false := by
      rw [hr]
      simp [oneR]
      omega
    rw [hh, hq, if_neg (by simp), if_neg (by simp)]
  show SoloG y (d + 3) (j + 1) ((gm.put (oneR s g) 0 ⟨y, sc, 3, true, false, false⟩).fin (oneR s g))
  rw [hf]
  refine ⟨by simp [Gm.put, h.left], by simp [Gm.put, h.darts], by simp [Gm.put, h.inn], by simp [Gm.put, oneR], hr, h.over, h.winners, he, by simp only [Gm.put, h.done]; rfl⟩
/-- A leg that a player alone has won. -/
structure WonG (d : Int) (gm : Gm) : Prop where
  over : gm.over = true
  left : gm.left = [0]
  darts : gm.darts = [d]
  winners : gm.winners.length = 1
theorem SoloG.win {s g x d j sc k : Int} {gm : Gm} {b : List Int} (h : SoloG x d j gm) (hk : 0 ≤ k ∧ k ≤ 3) (ht : Go.Proofs.Ytpifdeglhalefaa.thr 0 g true x b = (⟨0, sc, k, true, false, true⟩, -1, 0)) : (gm.step (oneR s g) 0 b).2.2 = 0 ∧ WonG (d + k) (gm.step (oneR s g) 0 b).1 := by
  unfold Gm.step
  rw [h.chk, if_neg (by simp), h.thr, ht, if_neg (by simp)]
  refine ⟨rfl, ?_⟩
  have he : (gm.put (oneR s g) 0 ⟨0, sc, k, true, false, true⟩).ended = updF (fun _ => none) 0 k := by
    simp [Gm.put, wonF, h.ended]
  have hh : hasF (oneR s g).counts.length (gm.put (oneR s g) 0 ⟨0, sc, k, true, false, true⟩).ended = true := by
    rw [he]
    simp [hasF, oneR, updF, List.range_succ]
  have hdn : ((gm.put (oneR s g) 0 ⟨0, sc, k, true, false, true⟩).done == 0) = true := by
    simp only [Gm.put, h.done]
    rfl
  have hw : winS (oneR s g).counts.length (gm.put (oneR s g) 0 ⟨0, sc, k, true, false, true⟩).ended = [0] := by
    rw [he]
    have hl : leastF 1 (updF (fun _ => none) 0 k) = k := by
      obtain ⟨h1, h2, h3⟩ := leastF_le (n := 1) (f := updF (fun _ => none) 0 k)
      have h4 := h2 0 (by omega) k (by simp [updF])
      rcases h3 with h3 | ⟨i, hi, h3⟩
      · omega
      · obtain rfl : i = 0 := by omega
        simp [updF] at h3
        omega
    show winS 1 _ = _
    unfold winS
    rw [hl]
    simp [updF, List.range_succ]
  show WonG (d + k) ((gm.put (oneR s g) 0 ⟨0, sc, k, true, false, true⟩).fin (oneR s g))
  unfold Gm.fin endS
  rw [hh, hdn, if_pos ⟨rfl, .inl rfl⟩]
  exact ⟨rfl, by simp [Gm.put, h.left], by simp [Gm.put, h.darts], by simp only [hw]; rfl⟩
/-- Darts cut into visits of three. -/
def visW (l : List Int) : List LV := (List.range ((l.length + 2) / 3)).map fun i => ⟨0, (l.drop (3 * i)).take 3⟩
theorem visW_nil : visW [] = [] := rfl
theorem visW_cons {l : List Int} (h : l ≠ []) : visW l = ⟨0, l.take 3⟩ :: visW (l.drop 3) := by
  have h1 : 0 < l.length := List.length_pos_iff.2 h
  have h2 : (l.length + 2) / 3 = ((l.drop 3).length + 2) / 3 + 1 := by rw [List.length_drop]; omega
  unfold visW
  rw [h2, List.range_succ_eq_map, List.map_cons, List.map_map]
  congr 1
  refine List.map_congr_left fun i _ => ?_
  simp only [Function.comp, List.drop_drop]
  rw [show 3 + 3 * i = 3 * i.succ by omega]
theorem visW_len (l : List Int) : (visW l).length = (l.length + 2) / 3 := by unfold visW; simp
theorem take3 {l : List Int} (h : 3 < l.length) : ∃ b1 b2 b3 m, l = b1 :: b2 :: b3 :: m ∧ m ≠ [] := by
  match l, h with
  | b1 :: b2 :: b3 :: b4 :: m, _ => exact ⟨b1, b2, b3, b4 :: m, rfl, by simp⟩
/-- A way is played. -/
theorem play_way {s g : Int} : ∀ (n : Nat) (l : List Int) (x d j i : Int) (gm : Gm), l.length ≤ n → l ≠ [] → SoloG x d j gm → 0 ≤ j → wayW g x l = true → (∀ b ∈ l, BedW g b) → ∃ G, playL (oneR s g) gm i (visW l) = (G, 0, 0) ∧ WonG (d + l.length) G
  | 0, l, _, _, _, _, _, hn, h1, _, _, _, _ => absurd (List.length_eq_zero_iff.1 (by omega)) h1
  | n + 1, l, x, d, j, i, gm, hn, h1, ho, hj, hw, hb => by
    rw [visW_cons h1]
    by_cases h3 : l.length ≤ 3
    · rw [List.take_of_length_le h3, List.drop_eq_nil_of_le h3, visW_nil]
      obtain ⟨k1, k2⟩ := ho.win (s := s) (by omega) (thr_last hw h1 h3 hb)
      refine ⟨_, ?_, k2⟩
      unfold playL
      rw [if_neg (by simp [k1])]
      rfl
    · obtain ⟨b1, b2, b3, m, rfl, hm⟩ := take3 (l := l) (by omega)
      obtain ⟨t1, t2⟩ := thr_three hw hm hb
      obtain ⟨k1, k2⟩ := ho.on (s := s) hj t1
      obtain ⟨G, g1, g2⟩ := play_way n m _ _ _ (i + 1) _ (by simp at hn; omega) hm k2 (by omega) t2 (fun b h => hb b (by simp [h]))
      refine ⟨G, ?_, ?_⟩
      · show playL (oneR s g) gm i (⟨0, [b1, b2, b3]⟩ :: visW m) = _
        unfold playL
        rw [if_neg (by simp [k1])]
        exact g1
      · rw [show d + ((b1 :: b2 :: b3 :: m).length : Int) = d + 3 + m.length by simp; omega]
        exact g2
theorem take3' {l : List Int} (h : 3 ≤ l.length) : ∃ b1 b2 b3 m, l = b1 :: b2 :: b3 :: m := by
  match l, h with
  | b1 :: b2 :: b3 :: m, _ => exact ⟨b1, b2, b3, m, rfl⟩
def scoW (l : List Int) : Int := (l.map wrt).sum
/-- A way without its last darts: whole visits. -/
theorem play_part {s g : Int} : ∀ (n : Nat) (m r : List Int) (x d j i : Int) (gm : Gm), m.length ≤ n → m.length % 3 = 0 → r ≠ [] → SoloG x d j gm → 0 ≤ j → wayW g x (m ++ r) = true → (∀ b ∈ m, BedW g b) → (∀ b ∈ r, BedW g b) → ∃ G y dd jj, playL (oneR s g) gm i (visW m) = (G, 0, 0) ∧ SoloG y dd jj G ∧ wayW g y r = true
  | n, [], r, x, d, j, i, gm, _, _, _, ho, _, hw, _, _ => ⟨gm, x, d, j, rfl, ho, hw⟩
  | 0, b :: m, _, _, _, _, _, _, hn, _, _, _, _, _, _, _ => by simp at hn
  | n + 1, b :: m, r, x, d, j, i, gm, hn, h3, hr, ho, hj, hw, hb, hbr => by
    obtain ⟨b1, b2, b3, m', e⟩ := take3' (l := b :: m) (by simp at h3 ⊢; omega)
    rw [e] at hn h3 hw hb ⊢
    have hne : m' ++ r ≠ [] := by simp [hr]
    obtain ⟨t1, t2⟩ := thr_three (l := m' ++ r) hw hne (fun b h => by
      simp only [List.mem_cons, List.mem_append] at h
      rcases h with h | h | h | h | h
      · exact hb b (by simp [h])
      · exact hb b (by simp [h])
      · exact hb b (by simp [h])
      · exact hb b (by simp [h])
      · exact hbr b h)
    obtain ⟨k1, k2⟩ := ho.on (s := s) hj t1
    obtain ⟨G, y, dd, jj, g1, g2, g3⟩ := play_part n m' r _ _ _ (i + 1) _ (by simp at hn; omega) (by simp at h3; omega) hr k2 (by omega) t2 (fun b h => hb b (by simp [h])) hbr
    refine ⟨G, y, dd, jj, ?_, g2, g3⟩
    rw [visW_cons (by simp)]
    show playL (oneR s g) gm i (⟨0, [b1, b2, b3]⟩ :: visW m') = _
    unfold playL
    rw [if_neg (by simp [k1])]
    exact g1
/-- A way without its last darts: a visit is too short. -/
theorem play_cut {s g : Int} : ∀ (n : Nat) (m r : List Int) (x d j i : Int) (gm : Gm), m.length ≤ n → m.length % 3 ≠ 0 → r ≠ [] → SoloG x d j gm → 0 ≤ j → wayW g x (m ++ r) = true → (∀ b ∈ m, BedW g b) → (∀ b ∈ r, BedW g b) → playL (oneR s g) gm i (visW m) = (Gm.zero, i + ((m.length / 3 : Nat) : Int), (31 : Int))
  | 0, m, _, _, _, _, _, _, hn, h3, _, _, _, _, _, _ => by
    have : m.length = 0 := by omega
    rw [this] at h3
    exact absurd rfl h3
  | n + 1, m, r, x, d, j, i, gm, hn, h3, hr, ho, hj, hw, hb, hbr => by
    have hne : m ≠ [] := by rintro rfl; simp at h3
    rw [visW_cons hne]
    by_cases h2 : m.length < 3
    · rw [List.take_of_length_le (by omega)]
      have ht := thr_short hw hr (by have := List.length_pos_iff.2 hne; omega) hb
      have hs : (gm.step (oneR s g) 0 m).2.2 = 31 := by
        unfold Gm.step
        rw [ho.chk, if_neg (by simp), ho.thr, ht, if_pos (by simp)]
      unfold playL
      rw [if_pos (by simp only; rw [hs]; decide), hs, show m.length / 3 = 0 by omega]
      simp
    · obtain ⟨b1, b2, b3, m', rfl⟩ := take3' (l := m) (by omega)
      have hne : m' ++ r ≠ [] := by simp [hr]
      obtain ⟨t1, t2⟩ := thr_three (l := m' ++ r) hw hne (fun b h => by
        simp only [List.mem_cons, List.mem_append] at h
        rcases h with h | h | h | h | h
        · exact hb b (by simp [h])
        · exact hb b (by simp [h])
        · exact hb b (by simp [h])
        · exact hb b (by simp [h])
        · exact hbr b h)
      obtain ⟨k1, k2⟩ := ho.on (s := s) hj t1
      have g1 := play_cut (s := s) n m' r _ _ _ (i + 1) _ (by simp at hn; omega) (by simp at h3; omega) hr k2 (by omega) t2 (fun b h => hb b (by simp [h])) hbr
      show playL (oneR s g) gm i (⟨0, [b1, b2, b3]⟩ :: visW m') = _
      unfold playL
      rw [if_neg (by simp [k1])]
      rw [show ((b1 :: b2 :: b3 :: m').length / 3 : Nat) = m'.length / 3 + 1 by simp; omega]
      simp only
      rw [g1]
      push_cast
      simp only [Prod.mk.injEq, true_and, and_true]
      omega
theorem newE_one {s g : Int} (hs : 2 ≤ s ∧ s ≤ 1001) (hg : g = 0 ∨ g = 1 ∨ g = 2) {n : Nat} (h : n ≤ 2000) : newE (oneR s g) n = 0 := by
  unfold newE
  rw [oneR_ok hs hg, if_neg (by simp), if_neg (by omega)]
theorem playS_way {s g : Int} (hs : 2 ≤ s ∧ s ≤ 1001) (hg : g = 0 ∨ g = 1 ∨ g = 2) {l : List Int} (h1 : l ≠ []) (hl : l.length ≤ 100) (hw : wayW g s l = true) (hb : ∀ b ∈ l, BedW g b) : ∃ G, playS (oneR s g) (visW l) = (G, 0, 0) ∧ WonG l.length G := by
  obtain ⟨G, g1, g2⟩ := play_way (s := s) l.length l s 0 0 0 _ (Nat.le_refl _) h1 (SoloG.begin s g) (Int.le_refl _) hw hb
  refine ⟨G, ?_, by simpa using g2⟩
  unfold playS
  rw [newE_one hs hg (by rw [visW_len]; omega), if_neg (by simp)]
  exact g1
theorem playS_part {s g : Int} (hs : 2 ≤ s ∧ s ≤ 1001) (hg : g = 0 ∨ g = 1 ∨ g = 2) {m : List Int} {b : Int} (hl : m.length ≤ 100) (h3 : m.length % 3 = 0) (hw : wayW g s (m ++ [b]) = true) (hb : ∀ x ∈ m ++ [b], BedW g x) : ∃ G, playS (oneR s g) (visW m) = (G, 0, 0) ∧ G.over = false ∧ G.left = [wrt b] := by
  obtain ⟨G, y, dd, jj, g1, g2, g3⟩ := play_part (s := s) m.length m [b] s 0 0 0 _ (Nat.le_refl _) h3 (by simp) (SoloG.begin s g) (Int.le_refl _) hw (fun x hx => hb x (by simp [hx])) (fun x hx => hb x (by simp at hx; simp [hx]))
  have e := way_nil (way_cons g3).2.2
  refine ⟨G, ?_, g2.over, by rw [g2.left]; congr 1; omega⟩
  unfold playS
  rw [newE_one hs hg (by rw [visW_len]; omega), if_neg (by simp)]
  exact g1
theorem playS_cut {s g : Int} (hs : 2 ≤ s ∧ s ≤ 1001) (hg : g = 0 ∨ g = 1 ∨ g = 2) {m : List Int} {b : Int} (hl : m.length ≤ 100) (h3 : m.length % 3 ≠ 0) (hw : wayW g s (m ++ [b]) = true) (hb : ∀ x ∈ m ++ [b], BedW g x) : playS (oneR s g) (visW m) = (Gm.zero, ((m.length / 3 : Nat) : Int), (31 : Int)) := by
  have g1 := play_cut (s := s) m.length m [b] s 0 0 0 _ (Nat.le_refl _) h3 (by simp) (SoloG.begin s g) (Int.le_refl _) hw (fun x hx => hb x (by simp [hx])) (fun x hx => hb x (by simp at hx; simp [hx]))
  unfold playS
  rw [newE_one hs hg (by rw [visW_len]; omega), if_neg (by simp), g1]
  simp
end Go.Proofs.Ytpifdeglhalefaa
