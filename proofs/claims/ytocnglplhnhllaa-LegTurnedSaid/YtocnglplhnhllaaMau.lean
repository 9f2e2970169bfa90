/-
  Package leg: a match while it is played: add, Match.
-/
import Derived.Test.YtocnglplhnhllaaMat
namespace Go.Proofs.Ytocnglplhnhllaa
open Go.RowKit Go.BigFrame
attribute [local go_sem] Later.cell Later.frozen Lat.cell Lat.frozen

/-- While a cell of a block is counted up: the load is operation i, the store operation j. -/
def UpG (b : Nat) (cs : Int → Array Value) (n : Int) (j : Nat) (L : Nat → Bool) (w : World) : Prop := ∃ v : Int, Blk w b (cs v) ∧ (L j = false → v = n) ∧ (L j = true → v = n + 1)
theorem UpG.cong {b : Nat} {cs : Int → Array Value} {n : Int} {j : Nat} {L L' : Nat → Bool} {w : World} (h : UpG b cs n j L w) (e : L' j = L j) : UpG b cs n j L' w := let ⟨v, h1, h2, h3⟩ := h; ⟨v, h1, e ▸ h2, e ▸ h3⟩
def Sc.up (x : Sc) (p : Int) : Sc := if p = 0 then { x with l0 := x.l0 + 1 } else { x with l1 := x.l1 + 1 }
/-- The next player's turn, the set is won or not, the match is won or not. -/
def Mt.add (m : Mt) (x : Sc) (set p : Int) : Sc × Int :=
  let y : Sc := { x.up p with first := 1 - x.first }
  if m.has y (y.legsOf p) (y.legsOf (1 - p)) = false then (y, set)
  else
    let z : Sc := if p = 0 then { y with s0 := y.s0 + 1 } else { y with s1 := y.s1 + 1 }
    if ((if p = 0 then z.s0 else z.s1) == m.sets) = true then ({ z with first := -1, winner := p }, set)
    else ({ z with first := 1 - set, l0 := 0, l1 := 0 }, 1 - set)
set_option maxHeartbeats 1000000 in
theorem match_add (m : Mt) (x : Sc) (set p : Int) (b : Nat) (w : World) (h : Blk w b (matC m x set)) (hm : (1 ≤ m.legs ∧ m.legs ≤ 25) ∧ (1 ≤ m.sets ∧ m.sets ≤ 25) ∧ (0 ≤ m.extra ∧ m.extra ≤ 25))
    (hx : (0 ≤ x.l0 ∧ x.l0 ≤ 9223372036854775805) ∧ (0 ≤ x.l1 ∧ x.l1 ≤ 9223372036854775805) ∧ (0 ≤ x.s0 ∧ x.s0 ≤ 9223372036854775805) ∧ (0 ≤ x.s1 ∧ x.s1 ≤ 9223372036854775805) ∧ (-1 ≤ x.first ∧ x.first ≤ 2)) (hs : -1 ≤ set ∧ set ≤ 2) (hp : p = 0 ∨ p = 1)
    (y : Sc × Int) (hy : m.add x set p = y) :
    Calls Try.prog 59 #[.pointer (some ⟨b, 0, none⟩), .int .i64 p] w fun e w' => e = .returned (.tuple #[]) ∧ Blk w' b (matC m y.1 y.2) ∧ Chg (· = b) w w' := by
  rcases hp with rfl | rfl
  · go_enter Try.func59, Try.ntmps59
    have hE0 := Chg.refl (· = b) w
    go_wp2
    have cu := h.cell 7 (v := .int .i64 (x.l0)) rfl
    refine wp_region_lat (by kernel_rfl) (fun b' o => b' = b ∧ o = 7) (fun k => k == 6 || k == 12) (fun k v => k = 6 → v = .int .i64 (x.l0)) (fun L _ w' => UpG b (fun v => matC m { x with l0 := v } set) (x.l0) 12 L w')
      (by kernel_rfl) (fun k hk => by simp only [Bool.or_eq_true, beq_iff_eq] at hk; show k < 13; omega) (fun L L' _ _ hh hg => hg.cong (hh 12 rfl)) (fun L _ w' w'' ⟨v, h1, h2⟩ hx => ⟨v, h1.ext hx, h2⟩)
      (fun _ => .int .i64 (x.l0)) (fun _ _ _ => rfl) ⟨x.l0, h.drew, fun _ => rfl, fun h => by cases h⟩ ?_
    intro T hT hne u hu
    have hu6 := hu 6 rfl rfl
    refine lx_next 6 (by rfl) (by decide) ?_
    dsimp only [List.take, List.drop]
    repeat (go_big_quiet_step (fail))
    refine wpQuiet_nil ?_
    refine lx_loud (by rfl) (by kernel_rfl) ?_ (fun K hK => ?_)
    · intro L w3 hL _ hcl hC ⟨v, hv, h0, h1⟩
      obtain rfl := h0 (hcl.off hL 12 12 (by kernel_rfl))
      obtain ⟨z, rfl⟩ := hC
      have hcc := hv.cell 7 (v := .int .i64 (x.l0)) rfl
      have hlt4 := hv.lt
      go_wp2
      exact ⟨rfl, ⟨z, rfl⟩, _, hv, fun _ => rfl, fun hh => h1 (by simpa [upd] using hh)⟩
    rw [hu6]
    go_simp
    with_reducible refine hK _ ?_
    clear hK K
    refine lx_next 5 (by rfl) (by decide) ?_
    dsimp only [List.take, List.drop]
    repeat (go_big_quiet_step (fail))
    refine wpQuiet_nil ?_
    refine lx_loud (by rfl) (by kernel_rfl) ?_ (fun K hK => ?_)
    · intro L w3 hL _ hcl hC ⟨v, hv, h0, h1⟩
      obtain ⟨z, rfl⟩ := hC
      have hcc := hv.cell 7 (v := .int .i64 v) rfl
      have hf := hv.frozen 7
      have hlt4 := hv.lt
      go_wp2
      exact ⟨⟨z.setCell (.inr ⟨rfl, rfl⟩) _, rfl⟩, x.l0 + 1, hv.set 7 (.int .i64 (x.l0 + 1)), fun h => by simp [upd] at h, fun _ => rfl⟩
    go_simp
    with_reducible refine hK _ ?_
    clear hK K
    refine lx_nil ?_
    intro z hG
    obtain ⟨v, hv, -, h1⟩ := hG
    obtain rfl := h1 rfl
    have hE' := hE0.trans (z.chg.mono (T := (· = b)) (by rintro k _ ⟨o, rfl, _⟩; rfl))
    generalize z.world = W at *
    clear z hne hu hu6 hT T u cu h1
    have hw1 : wrap64 (1 - x.first) = 1 - x.first := wrap64_in' ⟨by omega, by omega⟩
    have hlt := hv.lt
    have c9 := hv.cell 9 (v := .int .i64 x.first) rfl
    have f9 := hv.frozen 9
    have hb1 : Blk (W.setCell ⟨b, 9, none⟩ (.int .i64 (1 - x.first))) b (matC m { x with l0 := x.l0 + 1, first := 1 - x.first } set) := hv.set 9 _
    have hHas := match_hasSet m { x with l0 := x.l0 + 1, first := 1 - x.first } set 0 b _ hb1 hm ⟨⟨by simp only; omega, by simp only; omega⟩, by simp only; omega, by simp only; omega⟩ (.inl rfl)
    clear h
    have HB := Lib.hid hb1
    clear hb1
    have HY := Lib.hid hy
    clear hy
    go_wp2_with fail
    refine hHas.mono ?_
    clear hHas
    rintro e w2 ⟨rfl, hx2⟩
    have hb2 := HB.out.ext hx2
    have hE2 := (hE'.setCell (p := ⟨b, 9, none⟩) (.inr rfl) (.int .i64 (1 - x.first))).ext' hx2
    clear hx2 hE' hE0 HB hv c9 f9 hlt W
    cases e1 : m.has { x with l0 := x.l0 + 1, first := 1 - x.first } (Sc.legsOf { x with l0 := x.l0 + 1, first := 1 - x.first } 0) (Sc.legsOf { x with l0 := x.l0 + 1, first := 1 - x.first } (1 - 0))
    · go_wp2
      refine bodyPost_ret (by simp [results, Try.results59, go_sem]; try rfl) rfl ?_
      obtain rfl : y = ({ x with l0 := x.l0 + 1, first := 1 - x.first }, set) := by rw [← HY.out]; show Mt.add m x set 0 = _; simp only [Mt.add, Sc.up, ↓reduceIte, e1]
      exact ⟨rfl, hb2, hE2⟩
    go_wp2
    have cu := hb2.cell 5 (v := .int .i64 (x.s0)) rfl
    refine wp_region_lat (by kernel_rfl) (fun b' o => b' = b ∧ o = 5) (fun k => k == 6 || k == 12) (fun k v => k = 6 → v = .int .i64 (x.s0)) (fun L _ w' => UpG b (fun v => matC m { x with l0 := x.l0 + 1, first := 1 - x.first, s0 := v } set) (x.s0) 12 L w')
      (by kernel_rfl) (fun k hk => by simp only [Bool.or_eq_true, beq_iff_eq] at hk; show k < 13; omega) (fun L L' _ _ hh hg => hg.cong (hh 12 rfl)) (fun L _ w' w'' ⟨v, h1, h2⟩ hx => ⟨v, h1.ext hx, h2⟩)
      (fun _ => .int .i64 (x.s0)) (fun _ _ _ => rfl) ⟨x.s0, hb2.drew, fun _ => rfl, fun h => by cases h⟩ ?_
    intro T hT hne u hu
    have hu6 := hu 6 rfl rfl
    refine lx_next 6 (by rfl) (by decide) ?_
    dsimp only [List.take, List.drop]
    repeat (go_big_quiet_step (fail))
    refine wpQuiet_nil ?_
    refine lx_loud (by rfl) (by kernel_rfl) ?_ (fun K hK => ?_)
    · intro L w3 hL _ hcl hC ⟨v, hv, h0, h1⟩
      obtain rfl := h0 (hcl.off hL 12 12 (by kernel_rfl))
      obtain ⟨z, rfl⟩ := hC
      have hcc := hv.cell 5 (v := .int .i64 (x.s0)) rfl
      have hlt4 := hv.lt
      go_wp2
      exact ⟨rfl, ⟨z, rfl⟩, _, hv, fun _ => rfl, fun hh => h1 (by simpa [upd] using hh)⟩
    rw [hu6]
    go_simp
    with_reducible refine hK _ ?_
    clear hK K
    refine lx_next 5 (by rfl) (by decide) ?_
    dsimp only [List.take, List.drop]
    repeat (go_big_quiet_step (fail))
    refine wpQuiet_nil ?_
    refine lx_loud (by rfl) (by kernel_rfl) ?_ (fun K hK => ?_)
    · intro L w3 hL _ hcl hC ⟨v, hv, h0, h1⟩
      obtain ⟨z, rfl⟩ := hC
      have hcc := hv.cell 5 (v := .int .i64 v) rfl
      have hf := hv.frozen 5
      have hlt4 := hv.lt
      go_wp2
      exact ⟨⟨z.setCell (.inr ⟨rfl, rfl⟩) _, rfl⟩, x.s0 + 1, hv.set 5 (.int .i64 (x.s0 + 1)), fun h => by simp [upd] at h, fun _ => rfl⟩
    go_simp
    with_reducible refine hK _ ?_
    clear hK K
    refine lx_nil ?_
    intro z hG
    obtain ⟨v, hv, -, h1⟩ := hG
    obtain rfl := h1 rfl
    have hE' := hE2.trans (z.chg.mono (T := (· = b)) (by rintro k _ ⟨o, rfl, _⟩; rfl))
    generalize z.world = W at *
    clear z hne hu hu6 hT T u cu h1
    have hlt := hv.lt
    have c1 := hv.cell 1 (v := .int .i64 m.sets) rfl
    have cs := hv.cell 5 (v := .int .i64 (x.s0 + 1)) rfl
    go_wp2
    refine wp_region_later (by kernel_rfl) (by kernel_rfl) ?_
    repeat (go_big_quiet_step (fail))
    refine wpQuiet_nil ?_
    intro w4 hw4
    obtain ⟨⟨w4, hx4⟩, rfl⟩ := hw4
    replace hv := hv.ext hx4
    have hE4 := hE'.ext' hx4
    clear hlt c1 cs hE2 hb2 hE' hx4 W
    have hlt := hv.lt
    have f7 := hv.frozen 7
    have f8 := hv.frozen 8
    have f9 := hv.frozen 9
    have f10 := hv.frozen 10
    have f11 := hv.frozen 11
    have c7 := hv.cell 7 rfl
    have c8 := hv.cell 8 rfl
    have c9 := hv.cell 9 rfl
    have c10 := hv.cell 10 rfl
    have c11 := hv.cell 11 (v := .int .i64 set) rfl
    have hw2 : wrap64 (1 - set) = 1 - set := wrap64_in' ⟨by omega, by omega⟩
    have HV := Lib.hid hv
    clear hv
    have hadd : m.add x set 0 = if (x.s0 + 1 == m.sets) = true then ({ x with l0 := x.l0 + 1, s0 := x.s0 + 1, first := -1, winner := 0 }, set) else ({ x with s0 := x.s0 + 1, first := 1 - set, l0 := 0, l1 := 0 }, 1 - set) := by
      simp only [Mt.add, Sc.up, ↓reduceIte, e1]; rfl
    rw [HY.out] at hadd
    clear HY e1
    cases e2 : x.s0 + 1 == m.sets
    · rw [e2] at hadd
      simp only [Bool.false_eq_true, ↓reduceIte] at hadd
      subst hadd
      go_wp2
      refine bodyPost_end (results_none rfl _ _ _) rfl ?_
      exact ⟨rfl, (((HV.out.set 11 (.int .i64 (1 - set))).set 9 (.int .i64 (1 - set))).set 7 (.int .i64 0)).set 8 (.int .i64 0), (((hE4.setCell (.inr rfl) _).setCell (.inr rfl) _).setCell (.inr rfl) _).setCell (.inr rfl) _⟩
    · rw [e2] at hadd
      simp only [↓reduceIte] at hadd
      subst hadd
      go_wp2
      refine bodyPost_ret (by simp [results, Try.results59, go_sem]; try rfl) rfl ?_
      exact ⟨rfl, (HV.out.set 9 (.int .i64 (-1))).set 10 (.int .i64 0), (hE4.setCell (.inr rfl) _).setCell (.inr rfl) _⟩
  · go_enter Try.func59, Try.ntmps59
    have hE0 := Chg.refl (· = b) w
    go_wp2
    have cu := h.cell 8 (v := .int .i64 (x.l1)) rfl
    refine wp_region_lat (by kernel_rfl) (fun b' o => b' = b ∧ o = 8) (fun k => k == 6 || k == 12) (fun k v => k = 6 → v = .int .i64 (x.l1)) (fun L _ w' => UpG b (fun v => matC m { x with l1 := v } set) (x.l1) 12 L w')
      (by kernel_rfl) (fun k hk => by simp only [Bool.or_eq_true, beq_iff_eq] at hk; show k < 13; omega) (fun L L' _ _ hh hg => hg.cong (hh 12 rfl)) (fun L _ w' w'' ⟨v, h1, h2⟩ hx => ⟨v, h1.ext hx, h2⟩)
      (fun _ => .int .i64 (x.l1)) (fun _ _ _ => rfl) ⟨x.l1, h.drew, fun _ => rfl, fun h => by cases h⟩ ?_
    intro T hT hne u hu
    have hu6 := hu 6 rfl rfl
    refine lx_next 6 (by rfl) (by decide) ?_
    dsimp only [List.take, List.drop]
    repeat (go_big_quiet_step (fail))
    refine wpQuiet_nil ?_
    refine lx_loud (by rfl) (by kernel_rfl) ?_ (fun K hK => ?_)
    · intro L w3 hL _ hcl hC ⟨v, hv, h0, h1⟩
      obtain rfl := h0 (hcl.off hL 12 12 (by kernel_rfl))
      obtain ⟨z, rfl⟩ := hC
      have hcc := hv.cell 8 (v := .int .i64 (x.l1)) rfl
      have hlt4 := hv.lt
      go_wp2
      exact ⟨rfl, ⟨z, rfl⟩, _, hv, fun _ => rfl, fun hh => h1 (by simpa [upd] using hh)⟩
    rw [hu6]
    go_simp
    with_reducible refine hK _ ?_
    clear hK K
    refine lx_next 5 (by rfl) (by decide) ?_
    dsimp only [List.take, List.drop]
    repeat (go_big_quiet_step (fail))
    refine wpQuiet_nil ?_
    refine lx_loud (by rfl) (by kernel_rfl) ?_ (fun K hK => ?_)
    · intro L w3 hL _ hcl hC ⟨v, hv, h0, h1⟩
      obtain ⟨z, rfl⟩ := hC
      have hcc := hv.cell 8 (v := .int .i64 v) rfl
      have hf := hv.frozen 8
      have hlt4 := hv.lt
      go_wp2
      exact ⟨⟨z.setCell (.inr ⟨rfl, rfl⟩) _, rfl⟩, x.l1 + 1, hv.set 8 (.int .i64 (x.l1 + 1)), fun h => by simp [upd] at h, fun _ => rfl⟩
    go_simp
    with_reducible refine hK _ ?_
    clear hK K
    refine lx_nil ?_
    intro z hG
    obtain ⟨v, hv, -, h1⟩ := hG
    obtain rfl := h1 rfl
    have hE' := hE0.trans (z.chg.mono (T := (· = b)) (by rintro k _ ⟨o, rfl, _⟩; rfl))
    generalize z.world = W at *
    clear z hne hu hu6 hT T u cu h1
    have hw1 : wrap64 (1 - x.first) = 1 - x.first := wrap64_in' ⟨by omega, by omega⟩
    have hlt := hv.lt
    have c9 := hv.cell 9 (v := .int .i64 x.first) rfl
    have f9 := hv.frozen 9
    have hb1 : Blk (W.setCell ⟨b, 9, none⟩ (.int .i64 (1 - x.first))) b (matC m { x with l1 := x.l1 + 1, first := 1 - x.first } set) := hv.set 9 _
    have hHas := match_hasSet m { x with l1 := x.l1 + 1, first := 1 - x.first } set 1 b _ hb1 hm ⟨⟨by simp only; omega, by simp only; omega⟩, by simp only; omega, by simp only; omega⟩ (.inr rfl)
    clear h
    have HB := Lib.hid hb1
    clear hb1
    have HY := Lib.hid hy
    clear hy
    go_wp2_with fail
    refine hHas.mono ?_
    clear hHas
    rintro e w2 ⟨rfl, hx2⟩
    have hb2 := HB.out.ext hx2
    have hE2 := (hE'.setCell (p := ⟨b, 9, none⟩) (.inr rfl) (.int .i64 (1 - x.first))).ext' hx2
    clear hx2 hE' hE0 HB hv c9 f9 hlt W
    cases e1 : m.has { x with l1 := x.l1 + 1, first := 1 - x.first } (Sc.legsOf { x with l1 := x.l1 + 1, first := 1 - x.first } 1) (Sc.legsOf { x with l1 := x.l1 + 1, first := 1 - x.first } (1 - 1))
    · go_wp2
      refine bodyPost_ret (by simp [results, Try.results59, go_sem]; try rfl) rfl ?_
      obtain rfl : y = ({ x with l1 := x.l1 + 1, first := 1 - x.first }, set) := by rw [← HY.out]; show Mt.add m x set 1 = _; simp only [Mt.add, Sc.up, Int.reduceEq, ↓reduceIte, e1]
      exact ⟨rfl, hb2, hE2⟩
    go_wp2
    have cu := hb2.cell 6 (v := .int .i64 (x.s1)) rfl
    refine wp_region_lat (by kernel_rfl) (fun b' o => b' = b ∧ o = 6) (fun k => k == 6 || k == 12) (fun k v => k = 6 → v = .int .i64 (x.s1)) (fun L _ w' => UpG b (fun v => matC m { x with l1 := x.l1 + 1, first := 1 - x.first, s1 := v } set) (x.s1) 12 L w')
      (by kernel_rfl) (fun k hk => by simp only [Bool.or_eq_true, beq_iff_eq] at hk; show k < 13; omega) (fun L L' _ _ hh hg => hg.cong (hh 12 rfl)) (fun L _ w' w'' ⟨v, h1, h2⟩ hx => ⟨v, h1.ext hx, h2⟩)
      (fun _ => .int .i64 (x.s1)) (fun _ _ _ => rfl) ⟨x.s1, hb2.drew, fun _ => rfl, fun h => by cases h⟩ ?_
    intro T hT hne u hu
    have hu6 := hu 6 rfl rfl
    refine lx_next 6 (by rfl) (by decide) ?_
    dsimp only [List.take, List.drop]
    repeat (go_big_quiet_step (fail))
    refine wpQuiet_nil ?_
    refine lx_loud (by rfl) (by kernel_rfl) ?_ (fun K hK => ?_)
    · intro L w3 hL _ hcl hC ⟨v, hv, h0, h1⟩
      obtain rfl := h0 (hcl.off hL 12 12 (by kernel_rfl))
      obtain ⟨z, rfl⟩ := hC
      have hcc := hv.cell 6 (v := .int .i64 (x.s1)) rfl
      have hlt4 := hv.lt
      go_wp2
      exact ⟨rfl, ⟨z, rfl⟩, _, hv, fun _ => rfl, fun hh => h1 (by simpa [upd] using hh)⟩
    rw [hu6]
    go_simp
    with_reducible refine hK _ ?_
    clear hK K
    refine lx_next 5 (by rfl) (by decide) ?_
    dsimp only [List.take, List.drop]
    repeat (go_big_quiet_step (fail))
    refine wpQuiet_nil ?_
    refine lx_loud (by rfl) (by kernel_rfl) ?_ (fun K hK => ?_)
    · intro L w3 hL _ hcl hC ⟨v, hv, h0, h1⟩
      obtain ⟨z, rfl⟩ := hC
      have hcc := hv.cell 6 (v := .int .i64 v) rfl
      have hf := hv.frozen 6
      have hlt4 := hv.lt
      go_wp2
      exact ⟨⟨z.setCell (.inr ⟨rfl, rfl⟩) _, rfl⟩, x.s1 + 1, hv.set 6 (.int .i64 (x.s1 + 1)), fun h => by simp [upd] at h, fun _ => rfl⟩
    go_simp
    with_reducible refine hK _ ?_
    clear hK K
    refine lx_nil ?_
    intro z hG
    obtain ⟨v, hv, -, h1⟩ := hG
    obtain rfl := h1 rfl
    have hE' := hE2.trans (z.chg.mono (T := (· = b)) (by rintro k _ ⟨o, rfl, _⟩; rfl))
    generalize z.world = W at *
    clear z hne hu hu6 hT T u cu h1
    have hlt := hv.lt
    have c1 := hv.cell 1 (v := .int .i64 m.sets) rfl
    have cs := hv.cell 6 (v := .int .i64 (x.s1 + 1)) rfl
    go_wp2
    refine wp_region_later (by kernel_rfl) (by kernel_rfl) ?_
    repeat (go_big_quiet_step (fail))
    refine wpQuiet_nil ?_
    intro w4 hw4
    obtain ⟨⟨w4, hx4⟩, rfl⟩ := hw4
    replace hv := hv.ext hx4
    have hE4 := hE'.ext' hx4
    clear hlt c1 cs hE2 hb2 hE' hx4 W
    have hlt := hv.lt
    have f7 := hv.frozen 7
    have f8 := hv.frozen 8
    have f9 := hv.frozen 9
    have f10 := hv.frozen 10
    have f11 := hv.frozen 11
    have c7 := hv.cell 7 rfl
    have c8 := hv.cell 8 rfl
    have c9 := hv.cell 9 rfl
    have c10 := hv.cell 10 rfl
    have c11 := hv.cell 11 (v := .int .i64 set) rfl
    have hw2 : wrap64 (1 - set) = 1 - set := wrap64_in' ⟨by omega, by omega⟩
    have HV := Lib.hid hv
    clear hv
    have hadd : m.add x set 1 = if (x.s1 + 1 == m.sets) = true then ({ x with l1 := x.l1 + 1, s1 := x.s1 + 1, first := -1, winner := 1 }, set) else ({ x with s1 := x.s1 + 1, first := 1 - set, l0 := 0, l1 := 0 }, 1 - set) := by
      simp only [Mt.add, Sc.up, Int.reduceEq, ↓reduceIte, e1]; rfl
    rw [HY.out] at hadd
    clear HY e1
    cases e2 : x.s1 + 1 == m.sets
    · rw [e2] at hadd
      simp only [Bool.false_eq_true, ↓reduceIte] at hadd
      subst hadd
      go_wp2
      refine bodyPost_end (results_none rfl _ _ _) rfl ?_
      exact ⟨rfl, (((HV.out.set 11 (.int .i64 (1 - set))).set 9 (.int .i64 (1 - set))).set 7 (.int .i64 0)).set 8 (.int .i64 0), (((hE4.setCell (.inr rfl) _).setCell (.inr rfl) _).setCell (.inr rfl) _).setCell (.inr rfl) _⟩
    · rw [e2] at hadd
      simp only [↓reduceIte] at hadd
      subst hadd
      go_wp2
      refine bodyPost_ret (by simp [results, Try.results59, go_sem]; try rfl) rfl ?_
      exact ⟨rfl, (HV.out.set 9 (.int .i64 (-1))).set 10 (.int .i64 1), (hE4.setCell (.inr rfl) _).setCell (.inr rfl) _⟩
end Go.Proofs.Ytocnglplhnhllaa
