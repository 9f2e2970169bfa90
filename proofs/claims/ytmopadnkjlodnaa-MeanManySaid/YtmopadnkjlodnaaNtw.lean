/-
  A tale, plain: the totals of several legs that were thrown, their average and their rate.
-/
import Derived.Test.YtmopadnkjlodnaaNtu
namespace Go.Proofs.Ytmopadnkjlodnaa
open Go.RowKit
/-- A leg that was thrown. -/
structure Tld where
  start : Int
  gin : Int
  gout : Int
  vs : List (List Int)
  x : Exa
def Tld.leg (bl : List Int) (d : Tld) : Leg := ⟨d.start, d.gin, d.gout, bl, d.x.scores, d.x.won⟩
structure Tld.ok (bl : List Int) (d : Tld) : Prop where
  law : lawsB d.start d.gin d.gout bl = true
  run : rxG d.gin d.gout bl d.vs 0 (exa0 d.start) = .inl d.x
  len : 1 ≤ d.vs.length ∧ d.vs.length ≤ 15
def sumD (f : Tld → Int) (ds : List Tld) : Int := ds.foldr (fun d s => f d + s) 0
theorem sumD_cons (f : Tld → Int) (d : Tld) (ds : List Tld) : sumD f (d :: ds) = f d + sumD f ds := rfl
def Tld.pts (d : Tld) : Int := d.x.t.points
def Tld.drt (d : Tld) : Int := d.x.t.darts.lo
def Tld.tri (d : Tld) : Int := d.x.t.tried.lo
def Tld.won (d : Tld) : Int := if d.x.won = true then 1 else 0
def Tld.vis (d : Tld) : Int := d.vs.length
/-- The sums of legs. -/
structure LgM (T0 T : Tot) (ds : List Tld) : Prop where
  legs : T.legs = T0.legs + ds.length
  won : T.won = T0.won + sumD Tld.won ds
  vis : T.visits = T0.visits + sumD Tld.vis ds
  pts : T.points = T0.points + sumD Tld.pts ds
  dl : T0.darts.lo + sumD Tld.vis ds ≤ T.darts.lo ∧ T.darts.lo ≤ T0.darts.lo + sumD Tld.drt ds
  dh : T0.darts.hi + sumD Tld.drt ds ≤ T.darts.hi ∧ T.darts.hi ≤ T0.darts.hi + 3 * sumD Tld.vis ds
  tl : T0.tried.lo + sumD Tld.won ds ≤ T.tried.lo ∧ T.tried.lo ≤ T0.tried.lo + sumD Tld.tri ds
  th : T0.tried.hi + sumD Tld.tri ds ≤ T.tried.hi ∧ T.tried.hi - T0.tried.hi ≤ T.darts.hi - T0.darts.hi
theorem ofG_sum {bl : List Int} {most : Int} (hm : 100 ≤ most) : ∀ (ds : List Tld) (i : Nat) (T0 : Tot) (m : Int), (∀ d ∈ ds, d.ok bl) → TBnd m T0 → 0 ≤ m → m + 2000 * ds.length ≤ 90000 → ∃ T, ofG most (ds.map (Tld.leg bl)) i T0 = (T, 0, 0) ∧ LgM T0 T ds ∧ TBnd (m + 2000 * ds.length) T
  | [], i, T0, m, _, hT, _, _ => ⟨T0, rfl, ⟨by simp, by simp [sumD], by simp [sumD], by simp [sumD], by simp [sumD], by simp [sumD], by simp [sumD], by simp [sumD]⟩, by simpa using hT⟩
  | d :: ds, i, T0, m, hd, hT, hm0, hmm => by
    have hok := hd d (by simp)
    have hvt := vst_thrown hok.law hok.run (by have := hok.len; omega)
    simp only [List.length_cons] at hmm
    push_cast at hmm
    obtain ⟨t1, t2, t3, t4, ⟨t5, t6⟩, t7, t8⟩ := hT
    have hlg : wrap64 (T0.legs + 1) = T0.legs + 1 := wrap64_in' ⟨by omega, by omega⟩
    have hT1 : TBnd 100000 (oneMore T0) := by
      unfold oneMore TBnd
      dsimp only
      rw [hlg]
      refine ⟨⟨by omega, by omega⟩, ⟨by omega, by omega⟩, ⟨by omega, by omega⟩, ⟨by omega, by omega⟩, ⟨⟨by omega, by omega⟩, by omega, by omega⟩, ⟨by omega, by omega⟩, by omega, by omega⟩
    have hs := leg_sum hok.law hok.run (by have := hok.len; omega) hm hT1 d.vs.length d.x (Nat.le_refl _) (by rw [List.take_length]; exact hok.run)
    have htx := tlx_all hok.law hok.run (by have := hok.len; omega) d.vs.length d.x (Nat.le_refl _) (by rw [List.take_length]; exact hok.run)
    have hs1001 : 2 ≤ d.start ∧ d.start ≤ 1001 := by have := cntB_start (laws_cnt hok.law).1; omega
    obtain ⟨T1, hT1e⟩ : ∃ T1, legT most (d.leg bl) ((goT d.start d.x.scores d.x.won d.x.scores.length).map (fun s => spnF (allOf d.gin d.gout bl s))) (oneMore T0) d.vs.length = T1 := ⟨_, rfl⟩
    have hT1e' : legT most ⟨d.start, d.gin, d.gout, bl, d.x.scores, d.x.won⟩ ((goT d.start d.x.scores d.x.won d.x.scores.length).map (fun s => spnF (allOf d.gin d.gout bl s))) (oneMore T0) d.vs.length = T1 := hT1e
    rw [hT1e'] at hs
    have o1 : (oneMore T0).legs = T0.legs + 1 := hlg
    have o2 : (oneMore T0).won = T0.won := rfl
    have o3 : (oneMore T0).visits = T0.visits := rfl
    have o4 : (oneMore T0).points = T0.points := rfl
    have o5 : (oneMore T0).darts = T0.darts := rfl
    have o6 : (oneMore T0).tried = T0.tried := rfl
    obtain ⟨i1, i2, i3, i4, i5, i6, i7, i8⟩ := hs
    rw [o1] at i1
    rw [o2] at i2
    rw [o3] at i3
    rw [o4] at i4
    rw [o5] at i5 i6 i8
    rw [o6] at i7 i8
    have hw01 : 0 ≤ d.won ∧ d.won ≤ 1 := by unfold Tld.won; split <;> exact ⟨by decide, by decide⟩
    have hwe : (if d.x.won = true then (1 : Int) else 0) = d.won := rfl
    rw [hwe] at i2 i7
    have hdar := htx.dar
    have htri := htx.tri
    have hpts := htx.pts
    have hlen := hok.len
    have hleft : 0 ≤ d.x.left ∧ d.x.left ≤ d.start := by
      rcases htx.st with h1 | h1
      · have := h1.2; omega
      · have := h1.2.1; have := h1.2.2.1; have := leastS_pos d.gout; omega
    have hB1 : TBnd (m + 2000) T1 := by
      refine ⟨⟨by omega, by omega⟩, ⟨by omega, by omega⟩, ⟨by omega, by omega⟩, ⟨by omega, by omega⟩, ⟨⟨by omega, by omega⟩, by omega, by omega⟩, ⟨by omega, by omega⟩, by omega, by omega⟩
    obtain ⟨T, h1, h2, h3⟩ := ofG_sum hm ds (i + 1) T1 (m + 2000) (fun e he => hd e (by simp [he])) hB1 (by omega) (by omega)
    refine ⟨T, ?_, ?_, ?_⟩
    · rw [List.map_cons]
      show (if (vstF (d.leg bl)).2.2 = 0 then _ else _) = _
      have hv : vstF (d.leg bl) = ((goT d.start d.x.scores d.x.won d.x.scores.length).map (fun s => spnF (allOf d.gin d.gout bl s)), 0, 0) := hvt.2.2
      rw [hv]
      dsimp only
      rw [if_pos rfl]
      have hl : (d.leg bl).scores.length = d.vs.length := hvt.2.1
      rw [hl, hT1e]
      exact h1
    · have hdp : d.pts = d.x.t.points := rfl
      have hdd : d.drt = d.x.t.darts.lo := rfl
      have hdt : d.tri = d.x.t.tried.lo := rfl
      have hdv : d.vis = d.vs.length := rfl
      obtain ⟨j1, j2, j3, j4, j5, j6, j7, j8⟩ := h2
      refine ⟨by rw [List.length_cons]; push_cast; omega, by rw [sumD_cons]; omega, by rw [sumD_cons]; omega, by rw [sumD_cons]; omega, ?_, ?_, ?_, ?_⟩
      · rw [sumD_cons, sumD_cons]; omega
      · rw [sumD_cons, sumD_cons]; omega
      · rw [sumD_cons, sumD_cons]; omega
      · rw [sumD_cons]; omega
    · rw [List.length_cons]
      push_cast
      have e : m + 2000 * ((ds.length : Int) + 1) = m + 2000 + 2000 * (ds.length : Int) := by omega
      rw [e]
      exact h3
/-- What Totals says of legs that were thrown. -/
theorem tot_sum {bl : List Int} {ds : List Tld} (hd : ∀ d ∈ ds, d.ok bl) (hl : ds.length ≤ 10) : ∃ T, ofS 100 (ds.map (Tld.leg bl)) = (T, 0, 0) ∧ LgM tot0 T ds ∧ TBnd 20000 T := by
  have h0 : TBnd 0 tot0 := ⟨⟨by decide, by decide⟩, ⟨by decide, by decide⟩, ⟨by decide, by decide⟩, ⟨by decide, by decide⟩, ⟨⟨by decide, by decide⟩, by decide, by decide⟩, ⟨by decide, by decide⟩, by decide, by decide⟩
  obtain ⟨T, h1, h2, h3⟩ := ofG_sum (most := 100) (Int.le_refl _) ds 0 tot0 0 hd h0 (Int.le_refl _) (by omega)
  refine ⟨T, ?_, h2, ?_⟩
  · unfold ofS
    rw [if_neg (by rw [List.length_map]; omega)]
    exact h1
  · obtain ⟨t1, t2, t3, t4, ⟨t5, t6⟩, t7, t8⟩ := h3
    refine ⟨⟨by omega, by omega⟩, ⟨by omega, by omega⟩, ⟨by omega, by omega⟩, ⟨by omega, by omega⟩, ⟨⟨by omega, by omega⟩, by omega, by omega⟩, ⟨by omega, by omega⟩, by omega, by omega⟩
/-- A fraction in lowest terms. -/
theorem frac_is {n d : Int} (hn : 0 ≤ n) (hd : 1 ≤ d) : ∃ g a b : Int, 1 ≤ g ∧ 0 ≤ a ∧ 1 ≤ b ∧ n = g * a ∧ d = g * b ∧ fracS n d = ⟨a, b⟩ := by
  have hg : 0 < Int.gcd n d := Int.gcd_pos_of_ne_zero_right _ (by omega)
  obtain ⟨a, ha⟩ := Int.gcd_dvd_left n d
  obtain ⟨b, hb⟩ := Int.gcd_dvd_right n d
  have hg' : (0 : Int) < (Int.gcd n d : Int) := by omega
  have ha0 : 0 ≤ a := by
    rcases Int.lt_or_le a 0 with h | h
    · have := Int.mul_neg_of_pos_of_neg hg' h
      omega
    · exact h
  have hb1 : 1 ≤ b := by
    rcases Int.lt_or_le b 1 with h | h
    · have := Int.mul_nonpos_of_nonneg_of_nonpos (Int.le_of_lt hg') (show b ≤ 0 by omega)
      omega
    · exact h
  refine ⟨(Int.gcd n d : Int), a, b, by omega, ha0, hb1, ha, hb, ?_⟩
  have e1 : n.tdiv (Int.gcd n d) = a := by
    conv => lhs; lhs; rw [ha]
    rw [Int.mul_comm, Int.mul_tdiv_cancel _ (by omega)]
  have e2 : d.tdiv (Int.gcd n d) = b := by
    conv => lhs; lhs; rw [hb]
    rw [Int.mul_comm, Int.mul_tdiv_cancel _ (by omega)]
  unfold fracS
  rw [e1, e2]
theorem frac_low {n d m : Int} (hn : 0 ≤ n) (hd : 1 ≤ d) (hm : m ≤ d) : (fracS n d).n * m ≤ n * (fracS n d).d := by
  obtain ⟨g, a, b, h1, h2, h3, h4, h5, h6⟩ := frac_is hn hd
  rw [h6]
  dsimp only
  have : a * m ≤ a * d := Int.mul_le_mul_of_nonneg_left hm h2
  have e : a * d = n * b := by rw [h4, h5, Int.mul_comm g a, Int.mul_assoc]
  omega
theorem frac_high {n d m : Int} (hn : 0 ≤ n) (hd : 1 ≤ d) (hm : d ≤ m) : n * (fracS n d).d ≤ (fracS n d).n * m := by
  obtain ⟨g, a, b, h1, h2, h3, h4, h5, h6⟩ := frac_is hn hd
  rw [h6]
  dsimp only
  have : a * d ≤ a * m := Int.mul_le_mul_of_nonneg_left hm h2
  have e : a * d = n * b := by rw [h4, h5, Int.mul_comm g a, Int.mul_assoc]
  omega
theorem frac_bnd {n d : Int} (hn : 0 ≤ n) (hd : 1 ≤ d) : (0 ≤ (fracS n d).n ∧ (fracS n d).n ≤ n) ∧ (1 ≤ (fracS n d).d ∧ (fracS n d).d ≤ d) := by
  obtain ⟨g, a, b, h1, h2, h3, h4, h5, h6⟩ := frac_is hn hd
  rw [h6]
  dsimp only
  have e1 : a ≤ g * a := by
    have := Int.mul_le_mul_of_nonneg_right h1 h2
    omega
  have e2 : b ≤ g * b := by
    have := Int.mul_le_mul_of_nonneg_right h1 (show 0 ≤ b by omega)
    omega
  exact ⟨⟨h2, by omega⟩, h3, by omega⟩
/-- Whether a fraction lies in a range. -/
def winB (n d : Int) (r : Ran) : Bool := decide (r.lo.n * d ≤ n * r.lo.d) && decide (n * r.hi.d ≤ r.hi.n * d)
/-- The average and the rate of legs that were thrown. -/
theorem avg_in {T : Tot} {ds : List Tld} (h : LgM tot0 T ds) (hB : TBnd 20000 T) (hne : 1 ≤ sumD Tld.vis ds) : (avgS T).2 = 0 ∧ winB (3 * sumD Tld.pts ds) (sumD Tld.drt ds) (avgS T).1 = true ∧ (0 ≤ (avgS T).1.lo.n ∧ (avgS T).1.lo.n ≤ 60000) ∧ (1 ≤ (avgS T).1.lo.d ∧ (avgS T).1.lo.d ≤ 20000) ∧ (0 ≤ (avgS T).1.hi.n ∧ (avgS T).1.hi.n ≤ 60000) ∧ (1 ≤ (avgS T).1.hi.d ∧ (avgS T).1.hi.d ≤ 20000) := by
  obtain ⟨t1, t2, t3, t4, ⟨t5, t6⟩, t7, t8⟩ := hB
  have z1 : tot0.points = 0 := rfl
  have z2 : tot0.darts.lo = 0 := rfl
  have z3 : tot0.darts.hi = 0 := rfl
  have p := h.pts
  have dl := h.dl
  have dh := h.dh
  rw [z1] at p
  rw [z2] at dl
  rw [z3] at dh
  have hs : spnB T.darts = true := by
    unfold spnB
    rw [decide_eq_true (by omega), Bool.true_and]
    unfold ins out1
    simp only [List.any_cons, List.any_nil, Bool.or_false, Bool.not_eq_true', Bool.or_eq_false_iff, decide_eq_false_iff_not]
    omega
  have hp : ins 0 1000000 [T.points] = true := ins_one.2 ⟨by omega, by omega⟩
  have e : avgS T = (⟨fracS (3 * T.points) T.darts.hi, fracS (3 * T.points) T.darts.lo⟩, 0) := by
    unfold avgS
    rw [if_neg (by rw [hs, hp]; decide), if_neg (by omega)]
  rw [e]
  dsimp only
  have b1 := frac_bnd (n := 3 * T.points) (d := T.darts.hi) (by omega) (by omega)
  have b2 := frac_bnd (n := 3 * T.points) (d := T.darts.lo) (by omega) (by omega)
  refine ⟨rfl, ?_, ⟨by omega, by omega⟩, ⟨by omega, by omega⟩, ⟨by omega, by omega⟩, by omega, by omega⟩
  unfold winB
  have hpe : 3 * sumD Tld.pts ds = 3 * T.points := by omega
  rw [hpe]
  simp only [Bool.and_eq_true, decide_eq_true_iff]
  exact ⟨frac_low (by omega) (by omega) (by omega), frac_high (by omega) (by omega) (by omega)⟩
theorem rat_in {T : Tot} {ds : List Tld} (h : LgM tot0 T ds) (hB : TBnd 20000 T) : ((ratS T).2 = 0 ↔ 0 < T.tried.hi) ∧ ((ratS T).2 = 0 → sumD Tld.tri ds ≠ 0 → winB (sumD Tld.won ds) (sumD Tld.tri ds) (ratS T).1 = true) ∧ ((ratS T).2 = 0 → (0 ≤ (ratS T).1.lo.n ∧ (ratS T).1.lo.n ≤ 20000) ∧ (1 ≤ (ratS T).1.lo.d ∧ (ratS T).1.lo.d ≤ 20000) ∧ (0 ≤ (ratS T).1.hi.n ∧ (ratS T).1.hi.n ≤ 20000) ∧ (1 ≤ (ratS T).1.hi.d ∧ (ratS T).1.hi.d ≤ 20000)) := by
  obtain ⟨t1, t2, t3, t4, ⟨t5, t6⟩, t7, t8⟩ := hB
  have z1 : tot0.won = 0 := rfl
  have z2 : tot0.tried.lo = 0 := rfl
  have z3 : tot0.tried.hi = 0 := rfl
  have w := h.won
  have tl := h.tl
  have th := h.th
  rw [z1] at w
  rw [z2] at tl
  rw [z3] at th
  have hs : spnB T.tried = true := by
    unfold spnB
    rw [decide_eq_true (by omega), Bool.true_and]
    unfold ins out1
    simp only [List.any_cons, List.any_nil, Bool.or_false, Bool.not_eq_true', Bool.or_eq_false_iff, decide_eq_false_iff_not]
    omega
  have hp : ins 0 T.tried.lo [T.won] = true := ins_one.2 ⟨by omega, by omega⟩
  have e : ratS T = if T.tried.hi = 0 then (ran0, 7) else (⟨fracS T.won T.tried.hi, fracS T.won (max 1 T.tried.lo)⟩, 0) := by
    unfold ratS
    rw [if_neg (by rw [hs, hp]; decide)]
  rw [e]
  by_cases h0 : T.tried.hi = 0
  · rw [if_pos h0]
    refine ⟨⟨fun h => absurd h (show ¬ (7 : Int) = 0 by decide), fun h => by omega⟩, fun h => absurd h (show ¬ (7 : Int) = 0 by decide), fun h => absurd h (show ¬ (7 : Int) = 0 by decide)⟩
  · rw [if_neg h0]
    dsimp only
    have hm : 1 ≤ max 1 T.tried.lo ∧ max 1 T.tried.lo ≤ 20000 := by omega
    have b1 := frac_bnd (n := T.won) (d := T.tried.hi) (by omega) (by omega)
    have b2 := frac_bnd (n := T.won) (d := max 1 T.tried.lo) (by omega) (by omega)
    refine ⟨⟨fun _ => by omega, fun _ => rfl⟩, fun _ hne => ?_, fun _ => ⟨⟨by omega, by omega⟩, ⟨by omega, by omega⟩, ⟨by omega, by omega⟩, by omega, by omega⟩⟩
    unfold winB
    have hwe : sumD Tld.won ds = T.won := by omega
    rw [hwe]
    simp only [Bool.and_eq_true, decide_eq_true_iff]
    refine ⟨frac_low (by omega) (by omega) (by omega), ?_⟩
    have htp : 1 ≤ sumD Tld.tri ds := by omega
    exact frac_high (by omega) (by omega) (by omega)
end Go.Proofs.Ytmopadnkjlodnaa
