/-
  The statement LegMatches: walked.
-/
import Derived.Test.YtocnglplhnhllaaKno
import Derived.Test.YtocnglplhnhllaaRfm
import Derived.Test.YtocnglplhnhllaaApp
namespace Go.Proofs.Ytocnglplhnhllaa
open Go.RowKit Go.BigFrame
theorem run_equal_pair9 (a b a' b' : Int) (w : World) : (Op.equalIn 9999 69 (.agg #[.int .i64 a, .int .i64 b]) (.agg #[.int .i64 a', .int .i64 b'])).run Try.prog w = .ok (a == a' && b == b') w := run_equal_pair 9997 a b a' b' w
attribute [local go_sem] Later.cell Later.frozen Lat.cell Lat.frozen run_equal_pair9
/-- While a match is played. -/
structure LmG (l : List Int) (x : Sc) (base : Nat) (L : Nat → Bool) (u : Nat → Value) (w : World) : Prop where
  one : L 1 = true → L 3 = false → w.ownsRow base 3 1 (u 1) 0 []
  two : L 3 = true → L 4 = false → ∃ a c, u 3 = .slice a l.length c ∧ CellsAt w .i64 a l
  out : L 9 = true → ∃ k, u 9 = .pointer (some ⟨k, 0, none⟩) ∧ base ≤ k ∧ (L 10 = false → w.heap[k]? = some (.cells #[.int .i64 0, .int .i64 0, .int .i64 0, .int .i64 0, .int .i64 0, .int .i64 0] 71 (0, 0))) ∧
    (L 10 = true → Blk w k #[.int .i64 x.s0, .int .i64 x.s1, .int .i64 x.l0, .int .i64 x.l1, .int .i64 x.first, .int .i64 x.winner])
structure LmR (n : Nat) (T : Value) (k : Nat) (v : Value) : Prop where
  one : k = 1 → ∃ k, v = .slice (some ⟨k, 0, none⟩) 0 0
  two : k = 3 → ∃ a c, v = .slice a n c
  call : k = 4 → v = T
  out : k = 9 → ∃ k, v = .pointer (some ⟨k, 0, none⟩)
theorem LmG.mono {l : List Int} {x : Sc} {base : Nat} {L : Nat → Bool} {u : Nat → Value} {w w' : World} (h : LmG l x base L u w) (hx : Ext w w') : LmG l x base L u w' :=
  ⟨fun h1 h2 => own_chg (h.one h1 h2) (hx.chg fun _ => False) (fun _ _ => id), fun h1 h2 => let ⟨a, c, e, hc⟩ := h.two h1 h2; ⟨a, c, e, hc.ext hx⟩, fun hl => let ⟨k, a, b, c, d⟩ := h.out hl; ⟨k, a, b, fun h => hx.heap (c h), fun h => (d h).ext hx⟩⟩
set_option maxRecDepth 100000 in
set_option maxHeartbeats 2000000 in
theorem law_LegMatches (m : Mt) (l : List Int) (a : Option Addr) (c : Nat) (w : World) (hA : CellsAt w .i64 a l) (hlen : l.length ≤ 9223372036854775807) (hnil : a = none → l.length = 0 ∧ c = 0) :
    Calls Try.prog 7 #[.agg #[.int .i64 m.legs, .int .i64 m.sets, .int .i64 m.clear, .int .i64 m.extra, .int .i64 m.first], .slice a l.length c] w fun e w' => e = .returned (.bool true) ∧ Ext w w' := by
  have HA := Lib.hid hA
  have HN := Lib.hid hnil
  clear hA hnil
  by_cases h6 : 2000 < l.length
  · go_enter Try.func7, Try.ntmps7
    go_wp2_with fail
    refine (law_known _).mono ?_
    rintro e w1 ⟨rfl, hx⟩
    go_wp2
    go_ret
    exact ⟨rfl, Ext.trans ((Ext.refl w).alloc _) hx⟩
  · obtain ⟨T, hT⟩ : ∃ T, matS m l = T := ⟨_, rfl⟩
    have HT := Lib.hid hT
    clear hT
    obtain ⟨⟨s0, s1, l0, l1, first, winner⟩, at_, er⟩ := T
    have hMt := fun W a' c' hc => leg_Match m l a' c' W hc (by omega) _ HT.out
    have HMt := Lib.hid hMt
    have hRf := fun W hc => ref_Match m l a c W hc (by omega) _ HT.out
    have HRf := Lib.hid hRf
    clear hMt hRf
    obtain ⟨legs, sets, clear_, extra, mf⟩ := m
    simp only at *
    go_enter Try.func7, Try.ntmps7
    go_wp2
    generalize hW : World.alloc w _ = W
    have hE0 : Ext w W := by rw [← hW]; exact (Ext.refl w).alloc _
    have hM0 : Blk W w.heap.size #[.int .i64 legs, .int .i64 sets, .int .i64 clear_, .int .i64 extra, .int .i64 mf] := by rw [← hW]; exact Blk.new _ _ _
    clear hW
    obtain ⟨c0, c1, c2, c3, c4, cs⟩ := mt_cells (m := ⟨legs, sets, clear_, extra, mf⟩) hM0
    simp only at c0 c1 c2 c3 c4
    have HM := Lib.hid hM0
    have HA1 := Lib.hid (HA.out.ext hE0)
    clear hM0
    refine wp_region_lat (by kernel_rfl) (fun _ _ => False) (fun k => k == 1 || k == 3 || k == 4 || k == 9 || k == 10) (LmR l.length (.tuple #[.agg #[.int .i64 s0, .int .i64 s1, .int .i64 l0, .int .i64 l1, .int .i64 first, .int .i64 winner], .int .i64 at_, .int .i64 er])) (LmG l ⟨s0, s1, l0, l1, first, winner⟩ W.heap.size)
      (by kernel_rfl) (fun k hk => by simp only [Bool.or_eq_true, beq_iff_eq] at hk; show k < 13; omega)
      (fun L L' u w hh hg => ⟨by rw [hh 1 rfl, hh 3 rfl]; exact hg.one, by rw [hh 3 rfl, hh 4 rfl]; exact hg.two, by rw [hh 9 rfl, hh 10 rfl]; exact hg.out⟩)
      (fun L u w w' hg hx => hg.mono hx)
      (fun j => if j = 1 then .slice (some ⟨0, 0, none⟩) 0 0 else if j = 3 then .slice none l.length 0 else if j = 4 then .tuple #[.agg #[.int .i64 s0, .int .i64 s1, .int .i64 l0, .int .i64 l1, .int .i64 first, .int .i64 winner], .int .i64 at_, .int .i64 er] else .pointer (some ⟨0, 0, none⟩))
      (fun j hj => ⟨fun h => by subst h; exact ⟨0, rfl⟩, fun h => by subst h; exact ⟨none, 0, rfl⟩, fun h => by subst h; rfl, fun h => by subst h; exact ⟨0, rfl⟩⟩)
      ⟨fun h => (by cases h), fun h => (by cases h), fun h => (by cases h)⟩ ?_
    intro T hT hne u hu
    obtain ⟨k1, u1⟩ := (hu 1 rfl).one rfl
    obtain ⟨a3, c3', u3⟩ := (hu 3 rfl).two rfl
    have u4 := (hu 4 rfl).call rfl
    obtain ⟨k9, u9⟩ := (hu 9 rfl).out rfl
    refine lx_next 1 (by rfl) (by decide) ?_
    dsimp only [List.take, List.drop]
    repeat (go_big_quiet_step (fail))
    refine wpQuiet_nil ?_
    refine lx_loud (by rfl) (by kernel_rfl) ?_ (fun K hK => ?_)
    · intro L w3 hL hd hcl hC hg
      obtain ⟨z, rfl⟩ := hC
      have hx := (Ext.refl z.world).alloc (.cells #[] 3)
      have hz := z.size
      go_wp2
      exact ⟨⟨fun _ => ⟨_, rfl⟩, fun h => absurd h (by decide), fun h => absurd h (by decide), fun h => absurd h (by decide)⟩, ⟨z.ext hx, rfl⟩, ⟨fun _ _ => own_empty rfl hz, (hg.mono hx).two, (hg.mono hx).out⟩⟩
    rw [u1]
    go_simp
    with_reducible refine hK _ ?_
    clear hK K
    refine lx_next 1 (by rfl) (by decide) ?_
    dsimp only [List.take, List.drop]
    repeat (go_big_quiet_step (fail))
    refine wpQuiet_nil ?_
    refine lx_loud (by rfl) (by kernel_rfl) ?_ (fun K hK => ?_)
    · intro L w3 hL hd hcl hC hg
      obtain ⟨z, rfl⟩ := hC
      have ho := hg.one (hd 1 (by kernel_rfl)) hL
      rw [u1] at ho
      have hzx : Ext W z.world := Chg.to_ext (Ext.refl W) z.chg (by rintro i ⟨o, h⟩; exact h.elim)
      refine wp_append_vals rfl _ _ 48 3 _ 1 8 rfl info_int (by kernel_rfl) rfl (by decide) W.heap.size _ 0 [] rfl ho a l.length c (l.map (Value.int .i64)) rfl HN.out (by simp) (CellsAt.vals (HA1.out.ext hzx)) (ints_one _ _) (by omega) (by omega) z.size ?_
      intro v' w4 ho4 hg4
      obtain ⟨ca, cc, rfl, hcl4⟩ := own_cells_i (xs := l) (by simpa using ho4)
      have hx4 : Ext W w4 := Chg.to_ext hzx (grown_chg hg4) (fun i e => by have := (own_lt ho i e).1; omega)
      have hC4 := grown_chg hg4
      have h4 := hcl.off hL 10 4 (by kernel_rfl)
      have h10 := hcl.off hL 10 10 (by kernel_rfl)
      have HC4 := Lib.hid hcl4
      have hob := own_lt ho
      clear ho4 hcl4
      go_wp2
      refine ⟨⟨fun h => absurd h (by decide), fun _ => ⟨_, _, rfl⟩, fun h => absurd h (by decide), fun h => absurd h (by decide)⟩, ⟨Lat.of_ext _ hx4, rfl⟩, ⟨fun _ h => (by simp [upd] at h), fun _ _ => ⟨_, _, rfl, HC4.out⟩, fun h9 => ?_⟩⟩
      obtain ⟨k, e, hk, hB, -⟩ := hg.out h9
      refine ⟨k, e, hk, fun _ => hC4.heap (hB h10) (ne_of_type ho (hB h10) (by decide)), fun h => ?_⟩
      simp only [upd] at h
      rw [h10] at h; cases h
    rw [u3]
    go_simp
    with_reducible refine hK _ ?_
    clear hK K
    refine lx_loud (by rfl) (by kernel_rfl) ?_ (fun K hK => ?_)
    · intro L w3 hL hd hcl hC hg
      obtain ⟨z, rfl⟩ := hC
      obtain ⟨a', c', e, hca⟩ := hg.two (hd 3 (by kernel_rfl)) hL
      obtain ⟨rfl, rfl⟩ : a' = a3 ∧ c' = c3' := by rw [u3] at e; cases e; exact ⟨rfl, rfl⟩
      go_wp2_with fail
      refine (HMt.out _ _ _ hca).mono ?_
      rintro e w4 ⟨rfl, hx⟩
      simp only [Sc.agg]
      go_wp2
      exact ⟨⟨fun h => absurd h (by decide), fun h => absurd h (by decide), fun _ => rfl, fun h => absurd h (by decide)⟩, ⟨z.ext hx, rfl⟩, ⟨(hg.mono hx).one, fun _ h => (by simp [upd] at h), (hg.mono hx).out⟩⟩
    rw [u4]
    go_simp
    with_reducible refine hK _ ?_
    clear hK K
    refine lx_next 4 (by rfl) (by decide) ?_
    dsimp only [List.take, List.drop]
    repeat (go_big_quiet_step (fail))
    refine wpQuiet_nil ?_
    refine lx_loud (by rfl) (by kernel_rfl) ?_ (fun K hK => ?_)
    · intro L w3 hL hd hcl hC hg
      obtain ⟨z, rfl⟩ := hC
      have h10 := hcl.off hL 10 10 (by kernel_rfl)
      have hx := (Ext.refl z.world).alloc (.cells #[.int .i64 0, .int .i64 0, .int .i64 0, .int .i64 0, .int .i64 0, .int .i64 0] 71)
      have hz := z.size
      go_wp2
      refine ⟨⟨fun h => absurd h (by decide), fun h => absurd h (by decide), fun h => absurd h (by decide), fun _ => ⟨_, rfl⟩⟩, ⟨z.ext hx, rfl⟩, ⟨(hg.mono hx).one, (hg.mono hx).two, fun _ => ⟨z.world.heap.size, rfl, hz, fun _ => heap_new _ _, fun h => ?_⟩⟩⟩
      simp only [upd] at h
      rw [h10] at h; cases h
    rw [u9]
    go_simp
    with_reducible refine hK _ ?_
    clear hK K
    refine lx_loud (by rfl) (by kernel_rfl) ?_ (fun K hK => ?_)
    · intro L w3 hL hd hcl hC hg
      obtain ⟨z, rfl⟩ := hC
      obtain ⟨k, hk, hkb, hb, -⟩ := hg.out (hd 9 (by kernel_rfl))
      obtain rfl : k = k9 := by rw [u9] at hk; cases hk; rfl
      have hb' : Blk z.world k #[.int .i64 0, .int .i64 0, .int .i64 0, .int .i64 0, .int .i64 0, .int .i64 0] := ⟨_, hb hL⟩
      have HB := Lib.hid hb'
      have hX := Lib.hid (six_ext (a := W) (Chg.to_ext (Ext.refl W) z.chg (by rintro i ⟨o, h⟩; exact h.elim)) hkb (.int .i64 s0) (.int .i64 s1) (.int .i64 l0) (.int .i64 l1) (.int .i64 first) (.int .i64 winner))
      have h4 := hcl.on (i := 4) 10 (hd 6 (by kernel_rfl)) (by kernel_rfl)
      have h3 := hcl.on (i := 3) 10 (hd 6 (by kernel_rfl)) (by kernel_rfl)
      obtain ⟨⟨y0, y1, y2, y3, y4, y5⟩, ys, g0, g1, g2, g3, g4, g5⟩ := hb'.six
      clear hb hb' hg
      go_wp2
      exact ⟨⟨fun h => absurd h (by decide), fun h => absurd h (by decide), fun h => absurd h (by decide), fun h => absurd h (by decide)⟩, ⟨Lat.of_ext _ hX.out, rfl⟩,
        ⟨fun _ h => (by simp only [upd] at h; rw [h3] at h; cases h), fun _ h => (by simp only [upd] at h; rw [h4] at h; cases h), fun _ => ⟨k, u9, hkb, fun h => (by simp [upd] at h), fun _ => six_set HB.out _ _ _ _ _ _⟩⟩⟩
    go_simp
    with_reducible refine hK _ ?_
    clear hK K
    refine lx_next 2 (by rfl) (by decide) ?_
    dsimp only [List.take, List.drop]
    repeat (go_big_quiet_step (fail))
    refine wpQuiet_nil ?_
    refine lx_nil ?_
    intro z hG
    obtain ⟨k, hk, hkb, -, hb⟩ := hG.out rfl
    obtain rfl : k = k9 := by rw [u9] at hk; cases hk; rfl
    have hE1 : Ext W z.world := Chg.to_ext (Ext.refl W) z.chg (by rintro i ⟨o, h⟩; exact h.elim)
    have HX := Lib.hid (hb rfl)
    have hE2 := hE0.trans hE1
    have HM2 := Lib.hid (HM.out.ext hE1)
    generalize z.world = w1 at *
    clear hG hb hk hkb u1 u3 u4 u9 hu hT hne z c0 c1 c2 c3 c4 cs HM HA1 hE0 hE1
    obtain ⟨c0, c1, c2, c3, c4, cs⟩ := mt_cells (m := ⟨legs, sets, clear_, extra, mf⟩) HM2.out
    simp only at c0 c1 c2 c3 c4
    go_wp2_with fail
    refine (HRf.out _ (HA.out.ext hE2)).mono ?_
    rintro e w2 ⟨rfl, hx2⟩
    have hE3 := hE2.trans hx2
    obtain ⟨⟨y0, y1, y2, y3, y4, y5⟩, ys, -⟩ := (HX.out.ext hx2).six
    simp only [Sc.agg]
    clear c0 c1 c2 c3 c4 cs hx2 hE2
    go_wp2_with fail
    refine (law_known _).mono ?_
    rintro e w3 ⟨rfl, hx3⟩
    go_wp2
    go_ret
    exact ⟨rfl, (hE3.alloc _).trans hx3⟩
end Go.Proofs.Ytocnglplhnhllaa
