/-
  Package mean: Rate.
-/
import Derived.Test.YtmopadnkjlodnaaMfc
namespace Go.Proofs.Ytmopadnkjlodnaa
open Go.RowKit Go.BigFrame
attribute [local go_sem] Oper.semAt_some Later.cell Later.frozen
theorem four_set {w : World} {b : Nat} {v0 v1 v2 v3 : Value} (h : Blk w b #[v0, v1, v2, v3]) (x0 x1 x2 x3 : Value) : Blk ((((w.setCell ⟨b, 0, none⟩ x0).setCell ⟨b, 1, none⟩ x1).setCell ⟨b, 2, none⟩ x2).setCell ⟨b, 3, none⟩ x3) b #[x0, x1, x2, x3] := by
  have h0 : Blk _ b #[x0, v1, v2, v3] := h.set 0 x0
  have h1 : Blk _ b #[x0, x1, v2, v3] := h0.set 1 x1
  have h2 : Blk _ b #[x0, x1, x2, v3] := h1.set 2 x2
  have h3 : Blk _ b #[x0, x1, x2, x3] := h2.set 3 x3
  exact h3
theorem four_chg (S : Nat → Prop) (w : World) {b : Nat} (hb : S b) (x0 x1 x2 x3 : Value) : Chg S w ((((w.setCell ⟨b, 0, none⟩ x0).setCell ⟨b, 1, none⟩ x1).setCell ⟨b, 2, none⟩ x2).setCell ⟨b, 3, none⟩ x3) :=
  ((((Chg.refl S w).setCell (.inr hb) x0).setCell (.inr hb) x1).setCell (.inr hb) x2).setCell (.inr hb) x3
/-- A total: legs, won, visits, points, darts, tried, tons, highs, tops, best. -/
structure Tot where
  legs : Int
  won : Int
  visits : Int
  points : Int
  darts : Spn
  tried : Spn
  tons : Int
  highs : Int
  tops : Int
  best : Int
def Tot.agg (t : Tot) : Value := .agg #[.int .i64 t.legs, .int .i64 t.won, .int .i64 t.visits, .int .i64 t.points, .int .i64 t.darts.lo, .int .i64 t.darts.hi, .int .i64 t.tried.lo, .int .i64 t.tried.hi, .int .i64 t.tons, .int .i64 t.highs, .int .i64 t.tops, .int .i64 t.best]
def ran0 : Ran := ⟨⟨0, 0⟩, ⟨0, 0⟩⟩
def avgS (t : Tot) : Ran × Int :=
  if ins 0 1000000 [t.points] = false ∨ spnB t.darts = false then (ran0, 2) else if t.darts.lo = 0 then (ran0, 7) else (⟨fracS (3 * t.points) t.darts.hi, fracS (3 * t.points) t.darts.lo⟩, 0)
set_option maxRecDepth 100000 in
set_option maxHeartbeats 4000000 in
theorem mean_Average (t : Tot) (w : World) : Calls Try.prog 26 #[t.agg] w fun e w' => e = .returned (.tuple #[(avgS t).1.agg, .int .i64 (avgS t).2]) ∧ Ext w w' := by
  obtain ⟨av, hav⟩ : ∃ c, avgS t = c := ⟨_, rfl⟩
  rw [hav]
  have HAV := Lib.hid hav
  clear hav
  obtain ⟨legs, won, visits, points, ⟨dl, dh⟩, ⟨tl, th⟩, tons, highs, tops, best⟩ := t
  unfold Tot.agg
  simp only
  go_enter Try.func26, Try.ntmps26
  go_wp2_with fail
  refine (mean_within_1 0 1000000 points (World.alloc (World.alloc w _) _) _ (by simp)).mono ?_
  rintro e w1 ⟨rfl, hx1⟩
  have hx := (((Ext.refl w).alloc _).alloc _).trans hx1
  have hb : Blk w1 w.heap.size #[.int .i64 legs, .int .i64 won, .int .i64 visits, .int .i64 points, .int .i64 dl, .int .i64 dh, .int .i64 tl, .int .i64 th, .int .i64 tons, .int .i64 highs, .int .i64 tops, .int .i64 best] := ((Blk.new _ _ _).alloc _).ext hx1
  have hr : Blk w1 (w.heap.size + 1) #[.int .i64 0, .int .i64 0, .int .i64 0, .int .i64 0] := (Blk.at _ (by simp)).ext hx1
  obtain ⟨KB, hKB⟩ : ∃ y, y = w.heap.size + 1 := ⟨_, rfl⟩
  rw [← hKB] at hr ⊢
  have HX := Lib.hid hx
  have HB := Lib.hid hb
  have HR := Lib.hid hr
  have HKB := Lib.hid (show w.heap.size ≤ KB ∧ KB ≠ w.heap.size by omega)
  clear hx hb hr hx1 hKB
  have r0 := HR.out.cell 0 (v := .int .i64 0) rfl
  have r1 := HR.out.cell 1 (v := .int .i64 0) rfl
  have r2 := HR.out.cell 2 (v := .int .i64 0) rfl
  have r3 := HR.out.cell 3 (v := .int .i64 0) rfl
  have rl := HR.out.lt
  have f0 := HR.out.frozen 0
  have f1 := HR.out.frozen 1
  have f2 := HR.out.frozen 2
  have f3 := HR.out.frozen 3
  cases h1 : ins 0 1000000 [points]
  · have e : av = (ran0, 2) := by rw [← HAV.out]; simp [avgS, h1]
    have HE := Lib.hid e
    clear e
    go_wp2
    have hq := four_set HR.out (.int .i64 0) (.int .i64 0) (.int .i64 0) (.int .i64 0)
    have hX' := Chg.to_ext HX.out (four_chg (· = KB) w1 rfl (.int .i64 0) (.int .i64 0) (.int .i64 0) (.int .i64 0)) (by rintro i rfl; exact HKB.out.1)
    obtain ⟨W, hW⟩ : ∃ y, y = ((((w1.setCell ⟨KB, 0, none⟩ (.int .i64 0)).setCell ⟨KB, 1, none⟩ (.int .i64 0)).setCell ⟨KB, 2, none⟩ (.int .i64 0)).setCell ⟨KB, 3, none⟩ (.int .i64 0)) := ⟨_, rfl⟩
    rw [← hW] at hq hX' ⊢
    have q0 := hq.cell 0 (v := .int .i64 0) rfl
    have q1 := hq.cell 1 (v := .int .i64 0) rfl
    have q2 := hq.cell 2 (v := .int .i64 0) rfl
    have q3 := hq.cell 3 (v := .int .i64 0) rfl
    refine bodyPost_ret (v := .tuple #[.agg #[.int .i64 0, .int .i64 0, .int .i64 0, .int .i64 0], .int .i64 2]) (by simp [results, Try.results26, go_sem, q0, q1, q2, q3]) rfl ⟨by rw [HE.out]; rfl, hX'⟩
  clear r0 r1 r2 r3 rl f0 f1 f2 f3
  have b3 := HB.out.cell 3 (v := .int .i64 points) rfl
  have b4 := HB.out.cell 4 (v := .int .i64 dl) rfl
  have b5 := HB.out.cell 5 (v := .int .i64 dh) rfl
  have bl := HB.out.lt
  go_wp2_with fail
  refine (mean_isSpan dl dh _).mono ?_
  rintro e w2 ⟨rfl, hx2⟩
  have HX2 := Lib.hid (HX.out.trans hx2)
  have HB2 := Lib.hid (HB.out.ext hx2)
  have HR2 := Lib.hid (HR.out.ext hx2)
  clear b3 b4 b5 bl hx2
  have r0 := HR2.out.cell 0 (v := .int .i64 0) rfl
  have r1 := HR2.out.cell 1 (v := .int .i64 0) rfl
  have r2 := HR2.out.cell 2 (v := .int .i64 0) rfl
  have r3 := HR2.out.cell 3 (v := .int .i64 0) rfl
  have rl := HR2.out.lt
  have f0 := HR2.out.frozen 0
  have f1 := HR2.out.frozen 1
  have f2 := HR2.out.frozen 2
  have f3 := HR2.out.frozen 3
  have b3 := HB2.out.cell 3 (v := .int .i64 points) rfl
  have b4 := HB2.out.cell 4 (v := .int .i64 dl) rfl
  have b5 := HB2.out.cell 5 (v := .int .i64 dh) rfl
  have bl := HB2.out.lt
  cases h2 : spnB ⟨dl, dh⟩
  · have e : av = (ran0, 2) := by rw [← HAV.out]; simp [avgS, h2]
    have HE := Lib.hid e
    clear e
    go_wp2
    have hq := four_set HR2.out (.int .i64 0) (.int .i64 0) (.int .i64 0) (.int .i64 0)
    have hX' := Chg.to_ext HX2.out (four_chg (· = KB) w2 rfl (.int .i64 0) (.int .i64 0) (.int .i64 0) (.int .i64 0)) (by rintro i rfl; exact HKB.out.1)
    obtain ⟨W, hW⟩ : ∃ y, y = ((((w2.setCell ⟨KB, 0, none⟩ (.int .i64 0)).setCell ⟨KB, 1, none⟩ (.int .i64 0)).setCell ⟨KB, 2, none⟩ (.int .i64 0)).setCell ⟨KB, 3, none⟩ (.int .i64 0)) := ⟨_, rfl⟩
    rw [← hW] at hq hX' ⊢
    have q0 := hq.cell 0 (v := .int .i64 0) rfl
    have q1 := hq.cell 1 (v := .int .i64 0) rfl
    have q2 := hq.cell 2 (v := .int .i64 0) rfl
    have q3 := hq.cell 3 (v := .int .i64 0) rfl
    refine bodyPost_ret (v := .tuple #[.agg #[.int .i64 0, .int .i64 0, .int .i64 0, .int .i64 0], .int .i64 2]) (by simp [results, Try.results26, go_sem, q0, q1, q2, q3]) rfl ⟨by rw [HE.out]; rfl, hX'⟩
  by_cases h3 : dl = 0
  · have e : av = (ran0, 7) := by subst h3; rw [← HAV.out]; simp [avgS, h1, h2]
    have HE := Lib.hid e
    clear e
    subst h3
    go_wp2
    have hq := four_set HR2.out (.int .i64 0) (.int .i64 0) (.int .i64 0) (.int .i64 0)
    have hX' := Chg.to_ext HX2.out (four_chg (· = KB) w2 rfl (.int .i64 0) (.int .i64 0) (.int .i64 0) (.int .i64 0)) (by rintro i rfl; exact HKB.out.1)
    obtain ⟨W, hW⟩ : ∃ y, y = ((((w2.setCell ⟨KB, 0, none⟩ (.int .i64 0)).setCell ⟨KB, 1, none⟩ (.int .i64 0)).setCell ⟨KB, 2, none⟩ (.int .i64 0)).setCell ⟨KB, 3, none⟩ (.int .i64 0)) := ⟨_, rfl⟩
    rw [← hW] at hq hX' ⊢
    have q0 := hq.cell 0 (v := .int .i64 0) rfl
    have q1 := hq.cell 1 (v := .int .i64 0) rfl
    have q2 := hq.cell 2 (v := .int .i64 0) rfl
    have q3 := hq.cell 3 (v := .int .i64 0) rfl
    refine bodyPost_ret (v := .tuple #[.agg #[.int .i64 0, .int .i64 0, .int .i64 0, .int .i64 0], .int .i64 7]) (by simp [results, Try.results26, go_sem, q0, q1, q2, q3]) rfl ⟨by rw [HE.out]; rfl, hX'⟩
  have e : av = (⟨fracS (3 * points) dh, fracS (3 * points) dl⟩, 0) := by rw [← HAV.out]; simp [avgS, h1, h2, h3]
  have HE := Lib.hid e
  have hpt : 0 ≤ points ∧ points ≤ 1000000 := by
    simp only [ins, out1, List.any_cons, List.any_nil, Bool.or_false, Bool.not_eq_true'] at h1
    simp at h1
    omega
  have hsp : 0 < dl ∧ dl ≤ dh ∧ dh ≤ 1000000 := by
    unfold spnB at h2
    simp only [ins, out1, List.any_cons, List.any_nil, Bool.or_false, Bool.and_eq_true, Bool.not_eq_true', decide_eq_true_eq] at h2
    simp at h2
    omega
  have hw : wrap64 (3 * points) = 3 * points := wrap64_in' ⟨by omega, by omega⟩
  clear e
  go_upto_region 7 with fail
  have HF1 := Lib.hid (fun W => mean_fraction (3 * points) dh W ⟨by omega, by omega⟩ ⟨by omega, hsp.2.2⟩)
  have HF2 := Lib.hid (fun W => mean_fraction (3 * points) dl W ⟨by omega, by omega⟩ ⟨hsp.1, by omega⟩)
  unfold Fra.agg at HF1 HF2
  have HEE : Hid (av = (⟨fracS (3 * points) dh, fracS (3 * points) dl⟩, 0)) := HE
  generalize fracS (3 * points) dh = F1 at *
  generalize fracS (3 * points) dl = F2 at *
  have hne : ¬ (w.heap.size = KB) := fun e => HKB.out.2 e.symm
  have y4 : ∀ y : Lat (fun b _ => b = KB) w2, y.world.cell? ⟨w.heap.size, 4, none⟩ = some (.int .i64 dl) := fun y => (HB2.out.chg y.chg (by rintro ⟨_, e⟩; exact hne e)).cell 4 rfl
  have y5 : ∀ y : Lat (fun b _ => b = KB) w2, y.world.cell? ⟨w.heap.size, 5, none⟩ = some (.int .i64 dh) := fun y => (HB2.out.chg y.chg (by rintro ⟨_, e⟩; exact hne e)).cell 5 rfl
  have hk7 : ∀ k : Nat, (k == 11) = true → k < 13 := by
    intro k hk
    have : k = 11 := by simpa using hk
    omega
  refine wp_region_lat (by kernel_rfl) (fun b _ => b = KB) (fun k => k == 11) (fun _ _ => True) (fun L _ W => bif L 11 then Blk W KB #[.int .i64 F1.n, .int .i64 F1.d, .int .i64 F2.n, .int .i64 F2.d] else Blk W KB #[.int .i64 0, .int .i64 0, .int .i64 0, .int .i64 0]) (by kernel_rfl) (fun k hk => hk7 k hk)
    (fun L L' u w' h hg => by have e := h 11 rfl; show (bif L' 11 then _ else _); rw [e]; exact hg) (fun L u a b h hx => by revert h; show (bif L 11 then _ else _) → (bif L 11 then _ else _); cases L 11 <;> exact fun h => Blk.ext h hx) (fun _ => undef) (fun _ _ => trivial) (HR2.out.ext (Ext.refl w2).drew) ?_
  intro T hT hne2 u hu
  clear hu b3 b4 b5 r0 r1 r2 r3 f0 f1 f2 f3
  refine lx_next 11 (by rfl) (by decide) ?_
  dsimp only [List.take, List.drop]
  repeat (go_big_quiet_step (first | with_reducible refine Calls.lat hT (HF1.out _) | with_reducible refine Calls.lat hT (HF2.out _)))
  refine wpQuiet_nil ?_
  refine lx_loud (by rfl) (by kernel_rfl) ?_ (fun K hK => ?_)
  · intro L w4 hL hd hcl hC hs
    obtain ⟨y, rfl⟩ := hC
    simp only [hL, cond_false] at hs
    have r0 := hs.cell 0 (v := .int .i64 0) rfl
    have r1 := hs.cell 1 (v := .int .i64 0) rfl
    have r2 := hs.cell 2 (v := .int .i64 0) rfl
    have r3 := hs.cell 3 (v := .int .i64 0) rfl
    have rf0 := hs.frozen 0
    have rf1 := hs.frozen 1
    have rf2 := hs.frozen 2
    have rf3 := hs.frozen 3
    have rl := hs.lt
    have HS := Lib.hid hs
    clear hs
    go_wp2
    exact ⟨⟨y.chgd (four_chg (· = KB) y.world rfl _ _ _ _) (fun k hk => .inr fun _ => hk), rfl⟩, four_set HS.out _ _ _ _⟩
  go_simp
  with_reducible refine hK _ ?_
  clear hK K
  refine lx_next 1 (by rfl) (by decide) ?_
  dsimp only [List.take, List.drop]
  repeat (go_big_quiet_step (fail))
  refine wpQuiet_nil ?_
  refine lx_nil ?_
  intro y hs
  simp only [cond_true] at hs
  have q0 := hs.cell 0 (v := .int .i64 F1.n) rfl
  have q1 := hs.cell 1 (v := .int .i64 F1.d) rfl
  have q2 := hs.cell 2 (v := .int .i64 F2.n) rfl
  have q3 := hs.cell 3 (v := .int .i64 F2.d) rfl
  have HC : Hid (Ext w y.world) := Lib.hid (Chg.to_ext HX2.out (y.chg.mono (T := (· = KB)) (by rintro q - ⟨_, e⟩; exact e)) (by rintro i rfl; exact HKB.out.1))
  clear hs hT hne2 y4 y5
  generalize y.world = w9 at *
  go_wp2
  refine bodyPost_ret (v := .tuple #[.agg #[.int .i64 F1.n, .int .i64 F1.d, .int .i64 F2.n, .int .i64 F2.d], .int .i64 0]) (by simp [results, Try.results26, go_sem, q0, q1, q2, q3]) rfl ⟨by rw [HEE.out]; rfl, HC.out⟩
end Go.Proofs.Ytmopadnkjlodnaa
namespace Go.Proofs.Ytmopadnkjlodnaa
open Go.RowKit Go.BigFrame
attribute [local go_sem] Oper.semAt_some Later.cell Later.frozen
def ratS (t : Tot) : Ran × Int :=
  if spnB t.tried = false ∨ ins 0 t.tried.lo [t.won] = false then (ran0, 2) else if t.tried.hi = 0 then (ran0, 7) else (⟨fracS t.won t.tried.hi, fracS t.won (max 1 t.tried.lo)⟩, 0)
set_option maxRecDepth 100000 in
set_option maxHeartbeats 4000000 in
theorem mean_Rate (t : Tot) (w : World) : Calls Try.prog 27 #[t.agg] w fun e w' => e = .returned (.tuple #[(ratS t).1.agg, .int .i64 (ratS t).2]) ∧ Ext w w' := by
  obtain ⟨av, hav⟩ : ∃ c, ratS t = c := ⟨_, rfl⟩
  rw [hav]
  have HAV := Lib.hid hav
  clear hav
  obtain ⟨legs, won, visits, points, ⟨dl, dh⟩, ⟨tl, th⟩, tons, highs, tops, best⟩ := t
  unfold Tot.agg
  simp only
  go_enter Try.func27, Try.ntmps27
  go_wp2_with fail
  refine (mean_isSpan tl th _).mono ?_
  rintro e w1 ⟨rfl, hx1⟩
  have hx := (((Ext.refl w).alloc _).alloc _).trans hx1
  have hb : Blk w1 w.heap.size #[.int .i64 legs, .int .i64 won, .int .i64 visits, .int .i64 points, .int .i64 dl, .int .i64 dh, .int .i64 tl, .int .i64 th, .int .i64 tons, .int .i64 highs, .int .i64 tops, .int .i64 best] := ((Blk.new _ _ _).alloc _).ext hx1
  have hr : Blk w1 (w.heap.size + 1) #[.int .i64 0, .int .i64 0, .int .i64 0, .int .i64 0] := (Blk.at _ (by simp)).ext hx1
  obtain ⟨KB, hKB⟩ : ∃ y, y = w.heap.size + 1 := ⟨_, rfl⟩
  rw [← hKB] at hr ⊢
  have HX := Lib.hid hx
  have HB := Lib.hid hb
  have HR := Lib.hid hr
  have HKB := Lib.hid (show w.heap.size ≤ KB ∧ KB ≠ w.heap.size by omega)
  clear hx hb hr hx1 hKB
  have r0 := HR.out.cell 0 (v := .int .i64 0) rfl
  have r1 := HR.out.cell 1 (v := .int .i64 0) rfl
  have r2 := HR.out.cell 2 (v := .int .i64 0) rfl
  have r3 := HR.out.cell 3 (v := .int .i64 0) rfl
  have rl := HR.out.lt
  have f0 := HR.out.frozen 0
  have f1 := HR.out.frozen 1
  have f2 := HR.out.frozen 2
  have f3 := HR.out.frozen 3
  cases h1 : spnB ⟨tl, th⟩
  · have e : av = (ran0, 2) := by rw [← HAV.out]; simp [ratS, h1]
    have HE := Lib.hid e
    clear e
    go_wp2
    have hq := four_set HR.out (.int .i64 0) (.int .i64 0) (.int .i64 0) (.int .i64 0)
    have hX' := Chg.to_ext HX.out (four_chg (· = KB) w1 rfl (.int .i64 0) (.int .i64 0) (.int .i64 0) (.int .i64 0)) (by rintro i rfl; exact HKB.out.1)
    obtain ⟨W, hW⟩ : ∃ y, y = ((((w1.setCell ⟨KB, 0, none⟩ (.int .i64 0)).setCell ⟨KB, 1, none⟩ (.int .i64 0)).setCell ⟨KB, 2, none⟩ (.int .i64 0)).setCell ⟨KB, 3, none⟩ (.int .i64 0)) := ⟨_, rfl⟩
    rw [← hW] at hq hX' ⊢
    have q0 := hq.cell 0 (v := .int .i64 0) rfl
    have q1 := hq.cell 1 (v := .int .i64 0) rfl
    have q2 := hq.cell 2 (v := .int .i64 0) rfl
    have q3 := hq.cell 3 (v := .int .i64 0) rfl
    refine bodyPost_ret (v := .tuple #[.agg #[.int .i64 0, .int .i64 0, .int .i64 0, .int .i64 0], .int .i64 2]) (by simp [results, Try.results27, go_sem, q0, q1, q2, q3]) rfl ⟨by rw [HE.out]; rfl, hX'⟩
  clear r0 r1 r2 r3 rl f0 f1 f2 f3
  have b1 := HB.out.cell 1 (v := .int .i64 won) rfl
  have b6 := HB.out.cell 6 (v := .int .i64 tl) rfl
  have b7 := HB.out.cell 7 (v := .int .i64 th) rfl
  have bl := HB.out.lt
  go_wp2_with fail
  refine (mean_within_1 0 tl won w1 _ (by simp)).mono ?_
  rintro e w2 ⟨rfl, hx2⟩
  have HX2 := Lib.hid (HX.out.trans hx2)
  have HB2 := Lib.hid (HB.out.ext hx2)
  have HR2 := Lib.hid (HR.out.ext hx2)
  clear b1 b6 b7 bl hx2
  have r0 := HR2.out.cell 0 (v := .int .i64 0) rfl
  have r1 := HR2.out.cell 1 (v := .int .i64 0) rfl
  have r2 := HR2.out.cell 2 (v := .int .i64 0) rfl
  have r3 := HR2.out.cell 3 (v := .int .i64 0) rfl
  have rl := HR2.out.lt
  have f0 := HR2.out.frozen 0
  have f1 := HR2.out.frozen 1
  have f2 := HR2.out.frozen 2
  have f3 := HR2.out.frozen 3
  have b1 := HB2.out.cell 1 (v := .int .i64 won) rfl
  have b6 := HB2.out.cell 6 (v := .int .i64 tl) rfl
  have b7 := HB2.out.cell 7 (v := .int .i64 th) rfl
  have bl := HB2.out.lt
  cases h2 : ins 0 tl [won]
  · have e : av = (ran0, 2) := by rw [← HAV.out]; simp [ratS, h2]
    have HE := Lib.hid e
    clear e
    go_wp2
    have hq := four_set HR2.out (.int .i64 0) (.int .i64 0) (.int .i64 0) (.int .i64 0)
    have hX' := Chg.to_ext HX2.out (four_chg (· = KB) w2 rfl (.int .i64 0) (.int .i64 0) (.int .i64 0) (.int .i64 0)) (by rintro i rfl; exact HKB.out.1)
    obtain ⟨W, hW⟩ : ∃ y, y = ((((w2.setCell ⟨KB, 0, none⟩ (.int .i64 0)).setCell ⟨KB, 1, none⟩ (.int .i64 0)).setCell ⟨KB, 2, none⟩ (.int .i64 0)).setCell ⟨KB, 3, none⟩ (.int .i64 0)) := ⟨_, rfl⟩
    rw [← hW] at hq hX' ⊢
    have q0 := hq.cell 0 (v := .int .i64 0) rfl
    have q1 := hq.cell 1 (v := .int .i64 0) rfl
    have q2 := hq.cell 2 (v := .int .i64 0) rfl
    have q3 := hq.cell 3 (v := .int .i64 0) rfl
    refine bodyPost_ret (v := .tuple #[.agg #[.int .i64 0, .int .i64 0, .int .i64 0, .int .i64 0], .int .i64 2]) (by simp [results, Try.results27, go_sem, q0, q1, q2, q3]) rfl ⟨by rw [HE.out]; rfl, hX'⟩
  by_cases h3 : th = 0
  · have e : av = (ran0, 7) := by subst h3; rw [← HAV.out]; simp [ratS, h1, h2]
    have HE := Lib.hid e
    clear e
    subst h3
    go_wp2
    have hq := four_set HR2.out (.int .i64 0) (.int .i64 0) (.int .i64 0) (.int .i64 0)
    have hX' := Chg.to_ext HX2.out (four_chg (· = KB) w2 rfl (.int .i64 0) (.int .i64 0) (.int .i64 0) (.int .i64 0)) (by rintro i rfl; exact HKB.out.1)
    obtain ⟨W, hW⟩ : ∃ y, y = ((((w2.setCell ⟨KB, 0, none⟩ (.int .i64 0)).setCell ⟨KB, 1, none⟩ (.int .i64 0)).setCell ⟨KB, 2, none⟩ (.int .i64 0)).setCell ⟨KB, 3, none⟩ (.int .i64 0)) := ⟨_, rfl⟩
    rw [← hW] at hq hX' ⊢
    have q0 := hq.cell 0 (v := .int .i64 0) rfl
    have q1 := hq.cell 1 (v := .int .i64 0) rfl
    have q2 := hq.cell 2 (v := .int .i64 0) rfl
    have q3 := hq.cell 3 (v := .int .i64 0) rfl
    refine bodyPost_ret (v := .tuple #[.agg #[.int .i64 0, .int .i64 0, .int .i64 0, .int .i64 0], .int .i64 7]) (by simp [results, Try.results27, go_sem, q0, q1, q2, q3]) rfl ⟨by rw [HE.out]; rfl, hX'⟩
  have hsp : 0 ≤ tl ∧ tl ≤ th ∧ th ≤ 1000000 := by
    unfold spnB at h1
    simp only [ins, out1, List.any_cons, List.any_nil, Bool.or_false, Bool.and_eq_true, Bool.not_eq_true', decide_eq_true_eq] at h1
    simp at h1
    omega
  have hpt : 0 ≤ won ∧ won ≤ tl := by
    simp only [ins, out1, List.any_cons, List.any_nil, Bool.or_false, Bool.not_eq_true'] at h2
    simp at h2
    omega
  by_cases hm : tl ≤ 1
  · have hm2 : tl ≤ 1 := hm
    have e : av = (⟨fracS won th, fracS won 1⟩, 0) := by
      rw [← HAV.out]
      simp only [ratS, h1, h2, h3, or_self, Bool.true_eq_false, if_false]
      rw [show max 1 tl = 1 by omega]
    have HEE : Hid (av = (⟨fracS won th, fracS won 1⟩, 0)) := Lib.hid e
    clear e
    go_upto_region 6 with fail
    have HF1 := Lib.hid (fun W => mean_fraction won th W ⟨by omega, by omega⟩ ⟨by omega, by omega⟩)
    have HF2 := Lib.hid (fun W => mean_fraction won 1 W ⟨by omega, by omega⟩ ⟨by omega, by omega⟩)
    unfold Fra.agg at HF1 HF2
    generalize fracS won th = F1 at *
    generalize fracS won 1 = F2 at *
    have hne : ¬ (w.heap.size = KB) := fun e => HKB.out.2 e.symm
    have y1 : ∀ y : Lat (fun b _ => b = KB) w2, y.world.cell? ⟨w.heap.size, 1, none⟩ = some (.int .i64 won) := fun y => (HB2.out.chg y.chg (by rintro ⟨_, e⟩; exact hne e)).cell 1 rfl
    have y6 : ∀ y : Lat (fun b _ => b = KB) w2, y.world.cell? ⟨w.heap.size, 6, none⟩ = some (.int .i64 tl) := fun y => (HB2.out.chg y.chg (by rintro ⟨_, e⟩; exact hne e)).cell 6 rfl
    have y7 : ∀ y : Lat (fun b _ => b = KB) w2, y.world.cell? ⟨w.heap.size, 7, none⟩ = some (.int .i64 th) := fun y => (HB2.out.chg y.chg (by rintro ⟨_, e⟩; exact hne e)).cell 7 rfl
    have hk7 : ∀ k : Nat, (k == 14) = true → k < 16 := by
      intro k hk
      have : k = 14 := by simpa using hk
      omega
    refine wp_region_lat (by kernel_rfl) (fun b _ => b = KB) (fun k => k == 14) (fun _ _ => True) (fun L _ W => bif L 14 then Blk W KB #[.int .i64 F1.n, .int .i64 F1.d, .int .i64 F2.n, .int .i64 F2.d] else Blk W KB #[.int .i64 0, .int .i64 0, .int .i64 0, .int .i64 0]) (by kernel_rfl) (fun k hk => hk7 k hk)
      (fun L L' u w' h hg => by have e := h 14 rfl; show (bif L' 14 then _ else _); rw [e]; exact hg) (fun L u a b h hx => by revert h; show (bif L 14 then _ else _) → (bif L 14 then _ else _); cases L 14 <;> exact fun h => Blk.ext h hx) (fun _ => undef) (fun _ _ => trivial) (HR2.out.ext (Ext.refl w2).drew) ?_
    intro T hT hne2 u hu
    clear hu b1 b6 b7 r0 r1 r2 r3 f0 f1 f2 f3
    refine lx_next 14 (by rfl) (by decide) ?_
    dsimp only [List.take, List.drop]
    repeat (go_big_quiet_step (first | with_reducible refine Calls.lat hT (HF1.out _) | with_reducible refine Calls.lat hT (HF2.out _)))
    refine wpQuiet_nil ?_
    refine lx_loud (by rfl) (by kernel_rfl) ?_ (fun K hK => ?_)
    · intro L w4 hL hd hcl hC hs
      obtain ⟨y, rfl⟩ := hC
      simp only [hL, cond_false] at hs
      have r0 := hs.cell 0 (v := .int .i64 0) rfl
      have r1 := hs.cell 1 (v := .int .i64 0) rfl
      have r2 := hs.cell 2 (v := .int .i64 0) rfl
      have r3 := hs.cell 3 (v := .int .i64 0) rfl
      have rf0 := hs.frozen 0
      have rf1 := hs.frozen 1
      have rf2 := hs.frozen 2
      have rf3 := hs.frozen 3
      have rl := hs.lt
      have HS := Lib.hid hs
      clear hs
      go_wp2
      exact ⟨⟨y.chgd (four_chg (· = KB) y.world rfl _ _ _ _) (fun k hk => .inr fun _ => hk), rfl⟩, four_set HS.out _ _ _ _⟩
    go_simp
    with_reducible refine hK _ ?_
    clear hK K
    refine lx_next 1 (by rfl) (by decide) ?_
    dsimp only [List.take, List.drop]
    repeat (go_big_quiet_step (fail))
    refine wpQuiet_nil ?_
    refine lx_nil ?_
    intro y hs
    simp only [cond_true] at hs
    have q0 := hs.cell 0 (v := .int .i64 F1.n) rfl
    have q1 := hs.cell 1 (v := .int .i64 F1.d) rfl
    have q2 := hs.cell 2 (v := .int .i64 F2.n) rfl
    have q3 := hs.cell 3 (v := .int .i64 F2.d) rfl
    have HC : Hid (Ext w y.world) := Lib.hid (Chg.to_ext HX2.out (y.chg.mono (T := (· = KB)) (by rintro q - ⟨_, e⟩; exact e)) (by rintro i rfl; exact HKB.out.1))
    clear hs hT hne2 y1 y6 y7
    generalize y.world = w9 at *
    go_wp2
    refine bodyPost_ret (v := .tuple #[.agg #[.int .i64 F1.n, .int .i64 F1.d, .int .i64 F2.n, .int .i64 F2.d], .int .i64 0]) (by simp [results, Try.results27, go_sem, q0, q1, q2, q3]) rfl ⟨by rw [HEE.out]; rfl, HC.out⟩
  · have hm2 : 1 ≤ tl := by omega
    have e : av = (⟨fracS won th, fracS won tl⟩, 0) := by
      rw [← HAV.out]
      simp only [ratS, h1, h2, h3, or_self, Bool.true_eq_false, if_false]
      rw [show max 1 tl = tl by omega]
    have HEE : Hid (av = (⟨fracS won th, fracS won tl⟩, 0)) := Lib.hid e
    clear e
    go_upto_region 6 with fail
    have HF1 := Lib.hid (fun W => mean_fraction won th W ⟨by omega, by omega⟩ ⟨by omega, by omega⟩)
    have HF2 := Lib.hid (fun W => mean_fraction won tl W ⟨by omega, by omega⟩ ⟨by omega, by omega⟩)
    unfold Fra.agg at HF1 HF2
    generalize fracS won th = F1 at *
    generalize fracS won tl = F2 at *
    have hne : ¬ (w.heap.size = KB) := fun e => HKB.out.2 e.symm
    have y1 : ∀ y : Lat (fun b _ => b = KB) w2, y.world.cell? ⟨w.heap.size, 1, none⟩ = some (.int .i64 won) := fun y => (HB2.out.chg y.chg (by rintro ⟨_, e⟩; exact hne e)).cell 1 rfl
    have y6 : ∀ y : Lat (fun b _ => b = KB) w2, y.world.cell? ⟨w.heap.size, 6, none⟩ = some (.int .i64 tl) := fun y => (HB2.out.chg y.chg (by rintro ⟨_, e⟩; exact hne e)).cell 6 rfl
    have y7 : ∀ y : Lat (fun b _ => b = KB) w2, y.world.cell? ⟨w.heap.size, 7, none⟩ = some (.int .i64 th) := fun y => (HB2.out.chg y.chg (by rintro ⟨_, e⟩; exact hne e)).cell 7 rfl
    have hk7 : ∀ k : Nat, (k == 14) = true → k < 16 := by
      intro k hk
      have : k = 14 := by simpa using hk
      omega
    refine wp_region_lat (by kernel_rfl) (fun b _ => b = KB) (fun k => k == 14) (fun _ _ => True) (fun L _ W => bif L 14 then Blk W KB #[.int .i64 F1.n, .int .i64 F1.d, .int .i64 F2.n, .int .i64 F2.d] else Blk W KB #[.int .i64 0, .int .i64 0, .int .i64 0, .int .i64 0]) (by kernel_rfl) (fun k hk => hk7 k hk)
      (fun L L' u w' h hg => by have e := h 14 rfl; show (bif L' 14 then _ else _); rw [e]; exact hg) (fun L u a b h hx => by revert h; show (bif L 14 then _ else _) → (bif L 14 then _ else _); cases L 14 <;> exact fun h => Blk.ext h hx) (fun _ => undef) (fun _ _ => trivial) (HR2.out.ext (Ext.refl w2).drew) ?_
    intro T hT hne2 u hu
    clear hu b1 b6 b7 r0 r1 r2 r3 f0 f1 f2 f3
    refine lx_next 14 (by rfl) (by decide) ?_
    dsimp only [List.take, List.drop]
    repeat (go_big_quiet_step (first | with_reducible refine Calls.lat hT (HF1.out _) | with_reducible refine Calls.lat hT (HF2.out _)))
    refine wpQuiet_nil ?_
    refine lx_loud (by rfl) (by kernel_rfl) ?_ (fun K hK => ?_)
    · intro L w4 hL hd hcl hC hs
      obtain ⟨y, rfl⟩ := hC
      simp only [hL, cond_false] at hs
      have r0 := hs.cell 0 (v := .int .i64 0) rfl
      have r1 := hs.cell 1 (v := .int .i64 0) rfl
      have r2 := hs.cell 2 (v := .int .i64 0) rfl
      have r3 := hs.cell 3 (v := .int .i64 0) rfl
      have rf0 := hs.frozen 0
      have rf1 := hs.frozen 1
      have rf2 := hs.frozen 2
      have rf3 := hs.frozen 3
      have rl := hs.lt
      have HS := Lib.hid hs
      clear hs
      go_wp2
      exact ⟨⟨y.chgd (four_chg (· = KB) y.world rfl _ _ _ _) (fun k hk => .inr fun _ => hk), rfl⟩, four_set HS.out _ _ _ _⟩
    go_simp
    with_reducible refine hK _ ?_
    clear hK K
    refine lx_next 1 (by rfl) (by decide) ?_
    dsimp only [List.take, List.drop]
    repeat (go_big_quiet_step (fail))
    refine wpQuiet_nil ?_
    refine lx_nil ?_
    intro y hs
    simp only [cond_true] at hs
    have q0 := hs.cell 0 (v := .int .i64 F1.n) rfl
    have q1 := hs.cell 1 (v := .int .i64 F1.d) rfl
    have q2 := hs.cell 2 (v := .int .i64 F2.n) rfl
    have q3 := hs.cell 3 (v := .int .i64 F2.d) rfl
    have HC : Hid (Ext w y.world) := Lib.hid (Chg.to_ext HX2.out (y.chg.mono (T := (· = KB)) (by rintro q - ⟨_, e⟩; exact e)) (by rintro i rfl; exact HKB.out.1))
    clear hs hT hne2 y1 y6 y7
    generalize y.world = w9 at *
    go_wp2
    refine bodyPost_ret (v := .tuple #[.agg #[.int .i64 F1.n, .int .i64 F1.d, .int .i64 F2.n, .int .i64 F2.d], .int .i64 0]) (by simp [results, Try.results27, go_sem, q0, q1, q2, q3]) rfl ⟨by rw [HEE.out]; rfl, HC.out⟩
end Go.Proofs.Ytmopadnkjlodnaa
