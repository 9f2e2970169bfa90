/-
  Package mean: plus, (*total).add.
-/
import Derived.Test.YtmopadnkjlodnaaMra
import Derived.Test.YtmopadnkjlodnaaRbx
namespace Go.Proofs.Ytmopadnkjlodnaa
open Go.RowKit Go.BigFrame
attribute [local go_sem] Oper.semAt_some Later.cell Later.frozen Lat.cell Lat.frozen NoX
theorem mean_plus (al ah bl bh : Int) (w : World) : Calls Try.prog 104 #[.agg #[.int .i64 al, .int .i64 ah], .agg #[.int .i64 bl, .int .i64 bh]] w fun e w' => e = .returned (.agg #[.int .i64 (wrap64 (al + bl)), .int .i64 (wrap64 (ah + bh))]) ∧ Ext w w' := by
  go_enter Try.func104, Try.ntmps104
  go_wp2
  refine bodyPost_ret (v := .agg #[.int .i64 (wrap64 (al + bl)), .int .i64 (wrap64 (ah + bh))]) (by simp [results, Try.results104, go_sem]) rfl ⟨rfl, (((Ext.refl w).alloc _).alloc _).alloc _⟩
/-- A count behind so many of four steps. -/
def cntK (b : Bool) (k0 k : Nat) (x : Int) : Int := bif (decide (k0 < k) && b) then wrap64 (x + 1) else x
theorem cntK_if {p : Prop} [Decidable p] {b : Bool} (h : decide p = b) {k0 : Nat} (hk : k0 < 4) (x : Int) : (if p then wrap64 (x + 1) else x) = cntK b k0 4 x := by
  subst h
  unfold cntK
  rw [decide_eq_true hk]
  by_cases hp : p <;> simp [hp]
/-- A total with a visit more. -/
def sumS (t : Tot) (x : Ex) (g : Gl) : Tot :=
  ⟨t.legs, if g.wins then wrap64 (t.won + 1) else t.won, wrap64 (t.visits + 1), wrap64 (t.points + g.score), ⟨wrap64 (t.darts.lo + x.dl), wrap64 (t.darts.hi + x.dh)⟩, ⟨wrap64 (t.tried.lo + x.tl), wrap64 (t.tried.hi + x.th)⟩,
    if 100 ≤ g.score then wrap64 (t.tons + 1) else t.tons, if 140 ≤ g.score then wrap64 (t.highs + 1) else t.highs, if g.score = 180 then wrap64 (t.tops + 1) else t.tops, if g.wins then max t.best g.score else t.best⟩

set_option maxRecDepth 100000 in
set_option maxHeartbeats 8000000 in
theorem mean_tadd (kt : Nat) (t : Tot) (x : Ex) (g : Gl) (w : World) (hb : Blk w kt #[.int .i64 t.legs, .int .i64 t.won, .int .i64 t.visits, .int .i64 t.points, .int .i64 t.darts.lo, .int .i64 t.darts.hi, .int .i64 t.tried.lo, .int .i64 t.tried.hi, .int .i64 t.tons, .int .i64 t.highs, .int .i64 t.tops, .int .i64 t.best]) :
    Calls Try.prog 88 #[.pointer (some ⟨kt, 0, none⟩), .agg #[.int .i64 x.dl, .int .i64 x.dh, .int .i64 x.tl, .int .i64 x.th], .agg #[.int .i64 g.score, .bool g.wins]] w fun e w' => e = .returned (.tuple #[]) ∧ Blk w' kt #[.int .i64 ((sumS t x g).legs), .int .i64 ((sumS t x g).won), .int .i64 ((sumS t x g).visits), .int .i64 ((sumS t x g).points), .int .i64 ((sumS t x g).darts.lo), .int .i64 ((sumS t x g).darts.hi), .int .i64 ((sumS t x g).tried.lo), .int .i64 ((sumS t x g).tried.hi), .int .i64 ((sumS t x g).tons), .int .i64 ((sumS t x g).highs), .int .i64 ((sumS t x g).tops), .int .i64 ((sumS t x g).best)] ∧ Chg (· = kt) w w' := by
  obtain ⟨R, hR⟩ : ∃ r, sumS t x g = r := ⟨_, rfl⟩
  rw [hR]
  have HRR := Lib.hid hR
  have HB := Lib.hid hb
  obtain ⟨legs, won, visits, points, ⟨dl, dh⟩, ⟨tl, th⟩, tons, highs, tops, best⟩ := t
  obtain ⟨xl, xh, yl, yh, xs⟩ := x
  obtain ⟨gs, gw⟩ := g
  simp only at HB ⊢
  have hkt := hb.lt
  clear hR hb
  go_enter Try.func88, Try.ntmps88
  go_upto_region 1 with fail
  obtain ⟨w1, hw1⟩ : ∃ y, y = (w.alloc (.cells #[.int .i64 xl, .int .i64 xh, .int .i64 yl, .int .i64 yh] 45)).alloc (.cells #[.int .i64 gs, .bool gw] 121) := ⟨_, rfl⟩
  obtain ⟨B, hBB⟩ : ∃ y, y = w.heap.size := ⟨_, rfl⟩
  rw [← hw1, ← hBB]
  have HX1 : Hid (Ext w w1) := Lib.hid (by rw [hw1]; exact ((Ext.refl w).alloc _).alloc _)
  have K4 : Hid (Blk w1 B #[.int .i64 xl, .int .i64 xh, .int .i64 yl, .int .i64 yh]) := Lib.hid (by rw [hw1, hBB]; exact (Blk.new w _ _).alloc _)
  have K5 : Hid (Blk w1 (B + 1) #[.int .i64 gs, .bool gw]) := Lib.hid (by rw [hw1]; exact Blk.at _ (by simp [hBB]))
  have HT1 : Hid (Blk w1 kt #[.int .i64 legs, .int .i64 won, .int .i64 visits, .int .i64 points, .int .i64 dl, .int .i64 dh, .int .i64 tl, .int .i64 th, .int .i64 tons, .int .i64 highs, .int .i64 tops, .int .i64 best]) := Lib.hid (HB.out.ext HX1.out)
  have HNE : Hid (¬ B = kt ∧ ¬ B + 1 = kt) := Lib.hid ⟨by omega, by omega⟩
  clear hw1 hBB hkt
  have t2 := HT1.out.cell 2 (v := .int .i64 visits) rfl
  have tf2 := HT1.out.frozen 2
  have tl0 := HT1.out.lt
  go_upto_region 2 with fail
  have hT2 : Blk _ kt #[.int .i64 legs, .int .i64 won, .int .i64 (wrap64 (visits + 1)), .int .i64 points, .int .i64 dl, .int .i64 dh, .int .i64 tl, .int .i64 th, .int .i64 tons, .int .i64 highs, .int .i64 tops, .int .i64 best] := HT1.out.set 2 (.int .i64 (wrap64 (visits + 1)))
  have hC2 : Chg (· = kt) w1 _ := (Chg.refl (· = kt) w1).setCell (p := ⟨kt, 2, none⟩) (.inr rfl) (.int .i64 (wrap64 (visits + 1)))
  generalize World.setCell _ _ _ = w2 at hT2 hC2 ⊢
  have HT2 := Lib.hid hT2
  have HC2 := Lib.hid hC2
  clear t2 tf2 tl0 hT2 hC2
  have g0 : ∀ y : Lat (fun b _ => b = kt) w2, y.world.cell? ⟨B + 1, 0, none⟩ = some (.int .i64 gs) := fun y => ((K5.out.chg HC2.out HNE.out.2).chg y.chg (by rintro ⟨_, e⟩; exact HNE.out.2 e)).cell 0 rfl
  have gl : B + 1 < w2.heap.size := (K5.out.chg HC2.out HNE.out.2).lt
  refine wp_region_lat (by kernel_rfl) (fun b _ => b = kt) (fun k => (k == 4) || ((k == 11))) (RsIs [(4, .int .i64 points)]) (fun L _ W => Blk W kt (bif L 11 then #[.int .i64 legs, .int .i64 won, .int .i64 (wrap64 (visits + 1)), .int .i64 (wrap64 (points + gs)), .int .i64 dl, .int .i64 dh, .int .i64 tl, .int .i64 th, .int .i64 tons, .int .i64 highs, .int .i64 tops, .int .i64 best] else #[.int .i64 legs, .int .i64 won, .int .i64 (wrap64 (visits + 1)), .int .i64 points, .int .i64 dl, .int .i64 dh, .int .i64 tl, .int .i64 th, .int .i64 tons, .int .i64 highs, .int .i64 tops, .int .i64 best])) (by kernel_rfl)
    (fun k hk => by
      simp only [Bool.or_eq_true, beq_iff_eq] at hk
      rcases hk with rfl | rfl <;> decide)
    (fun L L' u w' h hg => by first | (rw [h 11 (by rfl)]; exact hg) | exact hg) (fun L u a b h hx => h.ext hx) (rsW [(4, .int .i64 points)]) (fun k _ => rsW_ok _ k) (HT2.out.ext (Ext.refl w2).drew) ?_
  intro T hT hne2 u hu
  have e_4 : u 4 = .int .i64 points := hu 4 rfl
  refine lx_next 4 (by rfl) (by decide) ?_
  dsimp only [List.take, List.drop]
  repeat (go_big_quiet_step (fail))
  refine wpQuiet_nil ?_
  refine lx_loud (by rfl) (by kernel_rfl) ?_ (fun K hK => ?_)
  · intro L w4 hL hd hcl hC hs
    obtain ⟨y, rfl⟩ := hC
    have d11 := hcl.off hL 40 11 (by kernel_rfl)
    rw [d11] at hs
    have hs : Blk y.world kt #[.int .i64 legs, .int .i64 won, .int .i64 (wrap64 (visits + 1)), .int .i64 points, .int .i64 dl, .int .i64 dh, .int .i64 tl, .int .i64 th, .int .i64 tons, .int .i64 highs, .int .i64 tops, .int .i64 best] := hs
    have r0 := hs.cell 3 (v := .int .i64 points) rfl
    have rl := hs.lt
    have HS := Lib.hid hs
    have D11 := Lib.hid d11
    have HLL := Lib.hid hL
    clear hs hd hcl hL d11
    go_wp2
    exact ⟨rfl, ⟨y, rfl⟩, by first | (rw [show upd L 4 11 = L 11 from rfl, D11.out]; exact HS.out) | exact HS.out⟩
  rw [e_4]
  go_simp
  with_reducible refine hK _ ?_
  clear hK K
  refine lx_next 6 (by rfl) (by decide) ?_
  dsimp only [List.take, List.drop]
  repeat (go_big_quiet_step (fail))
  refine wpQuiet_nil ?_
  refine lx_loud (by rfl) (by kernel_rfl) ?_ (fun K hK => ?_)
  · intro L w4 hL hd hcl hC hs
    obtain ⟨y, rfl⟩ := hC
    rw [hL] at hs
    have hs : Blk y.world kt #[.int .i64 legs, .int .i64 won, .int .i64 (wrap64 (visits + 1)), .int .i64 points, .int .i64 dl, .int .i64 dh, .int .i64 tl, .int .i64 th, .int .i64 tons, .int .i64 highs, .int .i64 tops, .int .i64 best] := hs
    have r0 := hs.cell 3 (v := .int .i64 points) rfl
    have rf0 := hs.frozen 3
    have rl := hs.lt
    have HS := Lib.hid hs
    have HLL := Lib.hid hL
    clear hs hd hcl hL
    go_wp2
    have hb0 : Blk _ kt #[.int .i64 legs, .int .i64 won, .int .i64 (wrap64 (visits + 1)), .int .i64 (wrap64 (points + gs)), .int .i64 dl, .int .i64 dh, .int .i64 tl, .int .i64 th, .int .i64 tons, .int .i64 highs, .int .i64 tops, .int .i64 best] := HS.out.set 3 (.int .i64 (wrap64 (points + gs)))
    exact ⟨trivial, ⟨y.chgd ((Chg.refl (· = kt) y.world).setCell (.inr rfl) (.int .i64 (wrap64 (points + gs)))) (fun b hb => .inr fun _ => hb), rfl⟩, by first | (rw [show upd L 11 11 = true from rfl]; exact hb0) | exact hb0⟩
  go_simp
  with_reducible refine hK _ ?_
  clear hK K
  refine lx_nil ?_
  intro y hs
  have HT3 : Hid (Blk y.world kt #[.int .i64 legs, .int .i64 won, .int .i64 (wrap64 (visits + 1)), .int .i64 (wrap64 (points + gs)), .int .i64 dl, .int .i64 dh, .int .i64 tl, .int .i64 th, .int .i64 tons, .int .i64 highs, .int .i64 tops, .int .i64 best]) := Lib.hid hs
  have HCw3 : Hid (Chg (· = kt) w2 y.world) := Lib.hid (y.chg.mono (by rintro q - ⟨_, e⟩; exact e))
  clear hs hu hT hne2 e_4 g0 gl
  generalize y.world = w3 at *
  clear y
  have HC3 := Lib.hid (HC2.out.trans HCw3.out)
  have x0 : ∀ y : Lat (fun b _ => b = kt) w3, y.world.cell? ⟨B, 0, none⟩ = some (.int .i64 xl) := fun y => ((K4.out.chg HC3.out HNE.out.1).chg y.chg (by rintro ⟨_, e⟩; exact HNE.out.1 e)).cell 0 rfl
  have x1 : ∀ y : Lat (fun b _ => b = kt) w3, y.world.cell? ⟨B, 1, none⟩ = some (.int .i64 xh) := fun y => ((K4.out.chg HC3.out HNE.out.1).chg y.chg (by rintro ⟨_, e⟩; exact HNE.out.1 e)).cell 1 rfl
  have x2 : ∀ y : Lat (fun b _ => b = kt) w3, y.world.cell? ⟨B, 2, none⟩ = some (.int .i64 yl) := fun y => ((K4.out.chg HC3.out HNE.out.1).chg y.chg (by rintro ⟨_, e⟩; exact HNE.out.1 e)).cell 2 rfl
  have x3 : ∀ y : Lat (fun b _ => b = kt) w3, y.world.cell? ⟨B, 3, none⟩ = some (.int .i64 yh) := fun y => ((K4.out.chg HC3.out HNE.out.1).chg y.chg (by rintro ⟨_, e⟩; exact HNE.out.1 e)).cell 3 rfl
  have xbl : B < w3.heap.size := (K4.out.chg HC3.out HNE.out.1).lt
  go_upto_region 3 with fail
  refine wp_region_lat (by kernel_rfl) (fun b _ => b = kt) (fun k => (k == 6) || ((k == 14) || ((k == 21) || ((k == 25))))) (RsIs [(6, .agg #[.int .i64 dl, .int .i64 dh]), (14, .agg #[.int .i64 tl, .int .i64 th])]) (fun L _ W => Blk W kt (bif L 25 then #[.int .i64 legs, .int .i64 won, .int .i64 (wrap64 (visits + 1)), .int .i64 (wrap64 (points + gs)), .int .i64 (wrap64 (dl + xl)), .int .i64 (wrap64 (dh + xh)), .int .i64 (wrap64 (tl + yl)), .int .i64 (wrap64 (th + yh)), .int .i64 tons, .int .i64 highs, .int .i64 tops, .int .i64 best] else (bif L 21 then #[.int .i64 legs, .int .i64 won, .int .i64 (wrap64 (visits + 1)), .int .i64 (wrap64 (points + gs)), .int .i64 (wrap64 (dl + xl)), .int .i64 (wrap64 (dh + xh)), .int .i64 tl, .int .i64 th, .int .i64 tons, .int .i64 highs, .int .i64 tops, .int .i64 best] else #[.int .i64 legs, .int .i64 won, .int .i64 (wrap64 (visits + 1)), .int .i64 (wrap64 (points + gs)), .int .i64 dl, .int .i64 dh, .int .i64 tl, .int .i64 th, .int .i64 tons, .int .i64 highs, .int .i64 tops, .int .i64 best]))) (by kernel_rfl)
    (fun k hk => by
      simp only [Bool.or_eq_true, beq_iff_eq] at hk
      rcases hk with rfl | rfl | rfl | rfl <;> decide)
    (fun L L' u w' h hg => by first | (rw [h 21 (by rfl), h 25 (by rfl)]; exact hg) | exact hg) (fun L u a b h hx => h.ext hx) (rsW [(6, .agg #[.int .i64 dl, .int .i64 dh]), (14, .agg #[.int .i64 tl, .int .i64 th])]) (fun k _ => rsW_ok _ k) (HT3.out.ext (Ext.refl w3).drew) ?_
  intro T hT hne2 u hu
  have e_6 : u 6 = .agg #[.int .i64 dl, .int .i64 dh] := hu 6 rfl
  have e_14 : u 14 = .agg #[.int .i64 tl, .int .i64 th] := hu 14 rfl
  refine lx_next 6 (by rfl) (by decide) ?_
  dsimp only [List.take, List.drop]
  repeat (go_big_quiet_step (first | with_reducible refine Calls.lat hT (mean_plus dl dh xl xh _) | with_reducible refine Calls.lat hT (mean_plus tl th yl yh _)))
  refine wpQuiet_nil ?_
  refine lx_loud (by rfl) (by kernel_rfl) ?_ (fun K hK => ?_)
  · intro L w4 hL hd hcl hC hs
    obtain ⟨y, rfl⟩ := hC
    have d21 := hcl.off hL 40 21 (by kernel_rfl)
    have d25 := hcl.off hL 40 25 (by kernel_rfl)
    rw [d21, d25] at hs
    have hs : Blk y.world kt #[.int .i64 legs, .int .i64 won, .int .i64 (wrap64 (visits + 1)), .int .i64 (wrap64 (points + gs)), .int .i64 dl, .int .i64 dh, .int .i64 tl, .int .i64 th, .int .i64 tons, .int .i64 highs, .int .i64 tops, .int .i64 best] := hs
    have r0 := hs.cell 4 (v := .int .i64 dl) rfl
    have r1 := hs.cell 5 (v := .int .i64 dh) rfl
    have rl := hs.lt
    have HS := Lib.hid hs
    have D21 := Lib.hid d21
    have D25 := Lib.hid d25
    have HLL := Lib.hid hL
    clear hs hd hcl hL d21 d25
    go_wp2
    exact ⟨rfl, ⟨y, rfl⟩, by first | (rw [show upd L 6 21 = L 21 from rfl, D21.out, show upd L 6 25 = L 25 from rfl, D25.out]; exact HS.out) | exact HS.out⟩
  rw [e_6]
  go_simp
  with_reducible refine hK _ ?_
  clear hK K
  refine lx_next 7 (by rfl) (by decide) ?_
  dsimp only [List.take, List.drop]
  repeat (go_big_quiet_step (first | with_reducible refine Calls.lat hT (mean_plus dl dh xl xh _) | with_reducible refine Calls.lat hT (mean_plus tl th yl yh _)))
  refine wpQuiet_nil ?_
  refine lx_loud (by rfl) (by kernel_rfl) ?_ (fun K hK => ?_)
  · intro L w4 hL hd hcl hC hs
    obtain ⟨y, rfl⟩ := hC
    have d21 := hcl.off hL 40 21 (by kernel_rfl)
    have d25 := hcl.off hL 40 25 (by kernel_rfl)
    rw [d21, d25] at hs
    have hs : Blk y.world kt #[.int .i64 legs, .int .i64 won, .int .i64 (wrap64 (visits + 1)), .int .i64 (wrap64 (points + gs)), .int .i64 dl, .int .i64 dh, .int .i64 tl, .int .i64 th, .int .i64 tons, .int .i64 highs, .int .i64 tops, .int .i64 best] := hs
    have r0 := hs.cell 6 (v := .int .i64 tl) rfl
    have r1 := hs.cell 7 (v := .int .i64 th) rfl
    have rl := hs.lt
    have HS := Lib.hid hs
    have D21 := Lib.hid d21
    have D25 := Lib.hid d25
    have HLL := Lib.hid hL
    clear hs hd hcl hL d21 d25
    go_wp2
    exact ⟨rfl, ⟨y, rfl⟩, by first | (rw [show upd L 14 21 = L 21 from rfl, D21.out, show upd L 14 25 = L 25 from rfl, D25.out]; exact HS.out) | exact HS.out⟩
  rw [e_14]
  go_simp
  with_reducible refine hK _ ?_
  clear hK K
  refine lx_next 6 (by rfl) (by decide) ?_
  dsimp only [List.take, List.drop]
  repeat (go_big_quiet_step (first | with_reducible refine Calls.lat hT (mean_plus dl dh xl xh _) | with_reducible refine Calls.lat hT (mean_plus tl th yl yh _)))
  refine wpQuiet_nil ?_
  refine lx_loud (by rfl) (by kernel_rfl) ?_ (fun K hK => ?_)
  · intro L w4 hL hd hcl hC hs
    obtain ⟨y, rfl⟩ := hC
    have d25 := hcl.off hL 40 25 (by kernel_rfl)
    rw [hL, d25] at hs
    have hs : Blk y.world kt #[.int .i64 legs, .int .i64 won, .int .i64 (wrap64 (visits + 1)), .int .i64 (wrap64 (points + gs)), .int .i64 dl, .int .i64 dh, .int .i64 tl, .int .i64 th, .int .i64 tons, .int .i64 highs, .int .i64 tops, .int .i64 best] := hs
    have r0 := hs.cell 4 (v := .int .i64 dl) rfl
    have r1 := hs.cell 5 (v := .int .i64 dh) rfl
    have rf0 := hs.frozen 4
    have rf1 := hs.frozen 5
    have rl := hs.lt
    have HS := Lib.hid hs
    have D25 := Lib.hid d25
    have HLL := Lib.hid hL
    clear hs hd hcl hL d25
    go_wp2
    have hb0 : Blk _ kt #[.int .i64 legs, .int .i64 won, .int .i64 (wrap64 (visits + 1)), .int .i64 (wrap64 (points + gs)), .int .i64 (wrap64 (dl + xl)), .int .i64 dh, .int .i64 tl, .int .i64 th, .int .i64 tons, .int .i64 highs, .int .i64 tops, .int .i64 best] := HS.out.set 4 (.int .i64 (wrap64 (dl + xl)))
    have hb1 : Blk _ kt #[.int .i64 legs, .int .i64 won, .int .i64 (wrap64 (visits + 1)), .int .i64 (wrap64 (points + gs)), .int .i64 (wrap64 (dl + xl)), .int .i64 (wrap64 (dh + xh)), .int .i64 tl, .int .i64 th, .int .i64 tons, .int .i64 highs, .int .i64 tops, .int .i64 best] := hb0.set 5 (.int .i64 (wrap64 (dh + xh)))
    exact ⟨trivial, ⟨y.chgd (((Chg.refl (· = kt) y.world).setCell (.inr rfl) (.int .i64 (wrap64 (dl + xl)))).setCell (.inr rfl) (.int .i64 (wrap64 (dh + xh)))) (fun b hb => .inr fun _ => hb), rfl⟩, by first | (rw [show upd L 21 21 = true from rfl, show upd L 21 25 = L 25 from rfl, D25.out]; exact hb1) | exact hb0⟩
  go_simp
  with_reducible refine hK _ ?_
  clear hK K
  refine lx_next 3 (by rfl) (by decide) ?_
  dsimp only [List.take, List.drop]
  repeat (go_big_quiet_step (first | with_reducible refine Calls.lat hT (mean_plus dl dh xl xh _) | with_reducible refine Calls.lat hT (mean_plus tl th yl yh _)))
  refine wpQuiet_nil ?_
  refine lx_loud (by rfl) (by kernel_rfl) ?_ (fun K hK => ?_)
  · intro L w4 hL hd hcl hC hs
    obtain ⟨y, rfl⟩ := hC
    have d21 := hd 21 (by kernel_rfl)
    rw [hL, d21] at hs
    have hs : Blk y.world kt #[.int .i64 legs, .int .i64 won, .int .i64 (wrap64 (visits + 1)), .int .i64 (wrap64 (points + gs)), .int .i64 (wrap64 (dl + xl)), .int .i64 (wrap64 (dh + xh)), .int .i64 tl, .int .i64 th, .int .i64 tons, .int .i64 highs, .int .i64 tops, .int .i64 best] := hs
    have r0 := hs.cell 6 (v := .int .i64 tl) rfl
    have r1 := hs.cell 7 (v := .int .i64 th) rfl
    have rf0 := hs.frozen 6
    have rf1 := hs.frozen 7
    have rl := hs.lt
    have HS := Lib.hid hs
    have D21 := Lib.hid d21
    have HLL := Lib.hid hL
    clear hs hd hcl hL d21
    go_wp2
    have hb0 : Blk _ kt #[.int .i64 legs, .int .i64 won, .int .i64 (wrap64 (visits + 1)), .int .i64 (wrap64 (points + gs)), .int .i64 (wrap64 (dl + xl)), .int .i64 (wrap64 (dh + xh)), .int .i64 (wrap64 (tl + yl)), .int .i64 th, .int .i64 tons, .int .i64 highs, .int .i64 tops, .int .i64 best] := HS.out.set 6 (.int .i64 (wrap64 (tl + yl)))
    have hb1 : Blk _ kt #[.int .i64 legs, .int .i64 won, .int .i64 (wrap64 (visits + 1)), .int .i64 (wrap64 (points + gs)), .int .i64 (wrap64 (dl + xl)), .int .i64 (wrap64 (dh + xh)), .int .i64 (wrap64 (tl + yl)), .int .i64 (wrap64 (th + yh)), .int .i64 tons, .int .i64 highs, .int .i64 tops, .int .i64 best] := hb0.set 7 (.int .i64 (wrap64 (th + yh)))
    exact ⟨trivial, ⟨y.chgd (((Chg.refl (· = kt) y.world).setCell (.inr rfl) (.int .i64 (wrap64 (tl + yl)))).setCell (.inr rfl) (.int .i64 (wrap64 (th + yh)))) (fun b hb => .inr fun _ => hb), rfl⟩, by first | (rw [show upd L 25 21 = L 21 from rfl, D21.out, show upd L 25 25 = true from rfl]; exact hb1) | exact hb0⟩
  go_simp
  with_reducible refine hK _ ?_
  clear hK K
  refine lx_nil ?_
  intro y hs
  have HT4 : Hid (Blk y.world kt #[.int .i64 legs, .int .i64 won, .int .i64 (wrap64 (visits + 1)), .int .i64 (wrap64 (points + gs)), .int .i64 (wrap64 (dl + xl)), .int .i64 (wrap64 (dh + xh)), .int .i64 (wrap64 (tl + yl)), .int .i64 (wrap64 (th + yh)), .int .i64 tons, .int .i64 highs, .int .i64 tops, .int .i64 best]) := Lib.hid hs
  have HCw4 : Hid (Chg (· = kt) w3 y.world) := Lib.hid (y.chg.mono (by rintro q - ⟨_, e⟩; exact e))
  clear hs hu hT hne2 e_6 e_14 x0 x1 x2 x3 xbl
  generalize y.world = w4 at *
  clear y
  have HC4 := Lib.hid (HC3.out.trans HCw4.out)
  have h40 := (K5.out.chg HC4.out HNE.out.2).cell 0 (v := .int .i64 gs) rfl
  have h41 := (K5.out.chg HC4.out HNE.out.2).cell 1 (v := .bool gw) rfl
  have hl4 := (K5.out.chg HC4.out HNE.out.2).lt
  obtain ⟨b0, hb0⟩ : ∃ b, decide (100 ≤ gs) = b := ⟨_, rfl⟩
  obtain ⟨b1, hb1⟩ : ∃ b, decide (140 ≤ gs) = b := ⟨_, rfl⟩
  obtain ⟨b2, hb2⟩ : ∃ b, (gs == 180) = b := ⟨_, rfl⟩
  have HBS := Lib.hid (And.intro hb0 (And.intro hb1 hb2))
  go_upto_region 4 with fail
  refine wp_region_later (by kernel_rfl) (by kernel_rfl) ?_
  repeat (go_big_quiet_step (fail))
  refine wpQuiet_nil ?_
  intro w5 hw5
  obtain ⟨⟨w5, hx5⟩, rfl⟩ := hw5
  have HX5 := Lib.hid hx5
  have HT5 : Hid (Blk w5 kt #[.int .i64 legs, .int .i64 (cntK gw 3 0 won), .int .i64 (wrap64 (visits + 1)), .int .i64 (wrap64 (points + gs)), .int .i64 (wrap64 (dl + xl)), .int .i64 (wrap64 (dh + xh)), .int .i64 (wrap64 (tl + yl)), .int .i64 (wrap64 (th + yh)), .int .i64 (cntK b0 0 0 tons), .int .i64 (cntK b1 1 0 highs), .int .i64 (cntK b2 2 0 tops), .int .i64 best]) := Lib.hid (by
    have h := HT4.out.ext hx5
    cases b0 <;> cases b1 <;> cases b2 <;> cases gw <;> exact h)
  have HK5 := Lib.hid ((K5.out.chg HC4.out HNE.out.2).ext hx5)
  clear h40 h41 hl4 hx5 hb0 hb1 hb2
  go_wp2
  go_loopw [84] (fun i wr => ∃ k : Nat, k ≤ 4 ∧ i = .int .i64 k ∧ Blk wr kt #[.int .i64 legs, .int .i64 (cntK gw 3 k won), .int .i64 (wrap64 (visits + 1)), .int .i64 (wrap64 (points + gs)), .int .i64 (wrap64 (dl + xl)), .int .i64 (wrap64 (dh + xh)), .int .i64 (wrap64 (tl + yl)), .int .i64 (wrap64 (th + yh)), .int .i64 (cntK b0 0 k tons), .int .i64 (cntK b1 1 k highs), .int .i64 (cntK b2 2 k tops), .int .i64 best] ∧ Chg (· = kt) w5 wr) (fun i _ => 4 - (intOf i).toNat)
  case atStart => exact ⟨0, by omega, rfl, HT5.out, Chg.refl _ _⟩
  case round =>
    obtain ⟨k, hk, rfl, hbk, hck⟩ := hrel
    obtain rfl | rfl | rfl | rfl | rfl : k = 0 ∨ k = 1 ∨ k = 2 ∨ k = 3 ∨ k = 4 := by omega
    · have e0 : ((0 : Nat) : Int) = 0 := rfl
      rw [e0]
      clear e0
      have HBK : Hid (Blk wr kt #[.int .i64 legs, .int .i64 (cntK gw 3 0 won), .int .i64 (wrap64 (visits + 1)), .int .i64 (wrap64 (points + gs)), .int .i64 (wrap64 (dl + xl)), .int .i64 (wrap64 (dh + xh)), .int .i64 (wrap64 (tl + yl)), .int .i64 (wrap64 (th + yh)), .int .i64 (cntK b0 0 0 tons), .int .i64 (cntK b1 1 0 highs), .int .i64 (cntK b2 2 0 tops), .int .i64 best]) := Lib.hid hbk
      have HCK := Lib.hid hck
      have HXA : Hid (Ext wr (wr.alloc (.cells #[.bool b0, .pointer (some ⟨kt, 8, none⟩)] 187))) := Lib.hid ((Ext.refl wr).alloc _)
      clear hbk hck
      go_wp2_with fail
      rename_i K0 a0
      refine a0 _ _ ?_
      rw [show ((#[.bool b0, .pointer (some ⟨kt, 8, none⟩), .bool b1, .pointer (some ⟨kt, 9, none⟩), .bool b2, .pointer (some ⟨kt, 10, none⟩), .bool gw, .pointer (some ⟨kt, 1, none⟩)] : Array Value).extract (Int.toNat 0 * (Try.prog.types[187]'(of_decide_eq_true (by kernel_rfl))).size) (Int.toNat 0 * (Try.prog.types[187]'(of_decide_eq_true (by kernel_rfl))).size + (Try.prog.types[187]'(of_decide_eq_true (by kernel_rfl))).size)) = (#[.bool b0, .pointer (some ⟨kt, 8, none⟩)] : Array Value) from rfl]
      cases b0
      · go_wp2
        go_roundw
        case rel =>
          have hn : Blk _ kt #[.int .i64 legs, .int .i64 (cntK gw 3 1 won), .int .i64 (wrap64 (visits + 1)), .int .i64 (wrap64 (points + gs)), .int .i64 (wrap64 (dl + xl)), .int .i64 (wrap64 (dh + xh)), .int .i64 (wrap64 (tl + yl)), .int .i64 (wrap64 (th + yh)), .int .i64 (cntK false 0 1 tons), .int .i64 (cntK b1 1 1 highs), .int .i64 (cntK b2 2 1 tops), .int .i64 best] := HBK.out.ext HXA.out
          exact ⟨1, by omega, rfl, hn, HCK.out.ext' HXA.out⟩
        case measure => simp [intOf]
      · have r0 := HBK.out.cell 8 (v := .int .i64 tons) rfl
        have rf0 := HBK.out.frozen 8
        have rl := HBK.out.lt
        go_wp2
        go_roundw
        case rel =>
          have hn : Blk _ kt #[.int .i64 legs, .int .i64 (cntK gw 3 0 won), .int .i64 (wrap64 (visits + 1)), .int .i64 (wrap64 (points + gs)), .int .i64 (wrap64 (dl + xl)), .int .i64 (wrap64 (dh + xh)), .int .i64 (wrap64 (tl + yl)), .int .i64 (wrap64 (th + yh)), .int .i64 (wrap64 (tons + 1)), .int .i64 (cntK b1 1 0 highs), .int .i64 (cntK b2 2 0 tops), .int .i64 best] := HBK.out.set 8 (.int .i64 (wrap64 (tons + 1)))
          exact ⟨1, by omega, rfl, hn.alloc _, (HCK.out.setCell (.inr rfl) _).alloc _⟩
        case measure => simp [intOf]
    · have e0 : ((1 : Nat) : Int) = 1 := rfl
      rw [e0]
      clear e0
      have HBK : Hid (Blk wr kt #[.int .i64 legs, .int .i64 (cntK gw 3 1 won), .int .i64 (wrap64 (visits + 1)), .int .i64 (wrap64 (points + gs)), .int .i64 (wrap64 (dl + xl)), .int .i64 (wrap64 (dh + xh)), .int .i64 (wrap64 (tl + yl)), .int .i64 (wrap64 (th + yh)), .int .i64 (cntK b0 0 1 tons), .int .i64 (cntK b1 1 1 highs), .int .i64 (cntK b2 2 1 tops), .int .i64 best]) := Lib.hid hbk
      have HCK := Lib.hid hck
      have HXA : Hid (Ext wr (wr.alloc (.cells #[.bool b1, .pointer (some ⟨kt, 9, none⟩)] 187))) := Lib.hid ((Ext.refl wr).alloc _)
      clear hbk hck
      go_wp2_with fail
      rename_i K0 a0
      refine a0 _ _ ?_
      rw [show ((#[.bool b0, .pointer (some ⟨kt, 8, none⟩), .bool b1, .pointer (some ⟨kt, 9, none⟩), .bool b2, .pointer (some ⟨kt, 10, none⟩), .bool gw, .pointer (some ⟨kt, 1, none⟩)] : Array Value).extract (Int.toNat 1 * (Try.prog.types[187]'(of_decide_eq_true (by kernel_rfl))).size) (Int.toNat 1 * (Try.prog.types[187]'(of_decide_eq_true (by kernel_rfl))).size + (Try.prog.types[187]'(of_decide_eq_true (by kernel_rfl))).size)) = (#[.bool b1, .pointer (some ⟨kt, 9, none⟩)] : Array Value) from rfl]
      cases b1
      · go_wp2
        go_roundw
        case rel =>
          have hn : Blk _ kt #[.int .i64 legs, .int .i64 (cntK gw 3 2 won), .int .i64 (wrap64 (visits + 1)), .int .i64 (wrap64 (points + gs)), .int .i64 (wrap64 (dl + xl)), .int .i64 (wrap64 (dh + xh)), .int .i64 (wrap64 (tl + yl)), .int .i64 (wrap64 (th + yh)), .int .i64 (cntK b0 0 2 tons), .int .i64 (cntK false 1 2 highs), .int .i64 (cntK b2 2 2 tops), .int .i64 best] := HBK.out.ext HXA.out
          exact ⟨2, by omega, rfl, hn, HCK.out.ext' HXA.out⟩
        case measure => simp [intOf]
      · have r0 := HBK.out.cell 9 (v := .int .i64 highs) rfl
        have rf0 := HBK.out.frozen 9
        have rl := HBK.out.lt
        go_wp2
        go_roundw
        case rel =>
          have hn : Blk _ kt #[.int .i64 legs, .int .i64 (cntK gw 3 1 won), .int .i64 (wrap64 (visits + 1)), .int .i64 (wrap64 (points + gs)), .int .i64 (wrap64 (dl + xl)), .int .i64 (wrap64 (dh + xh)), .int .i64 (wrap64 (tl + yl)), .int .i64 (wrap64 (th + yh)), .int .i64 (cntK b0 0 1 tons), .int .i64 (wrap64 (highs + 1)), .int .i64 (cntK b2 2 1 tops), .int .i64 best] := HBK.out.set 9 (.int .i64 (wrap64 (highs + 1)))
          exact ⟨2, by omega, rfl, hn.alloc _, (HCK.out.setCell (.inr rfl) _).alloc _⟩
        case measure => simp [intOf]
    · have e0 : ((2 : Nat) : Int) = 2 := rfl
      rw [e0]
      clear e0
      have HBK : Hid (Blk wr kt #[.int .i64 legs, .int .i64 (cntK gw 3 2 won), .int .i64 (wrap64 (visits + 1)), .int .i64 (wrap64 (points + gs)), .int .i64 (wrap64 (dl + xl)), .int .i64 (wrap64 (dh + xh)), .int .i64 (wrap64 (tl + yl)), .int .i64 (wrap64 (th + yh)), .int .i64 (cntK b0 0 2 tons), .int .i64 (cntK b1 1 2 highs), .int .i64 (cntK b2 2 2 tops), .int .i64 best]) := Lib.hid hbk
      have HCK := Lib.hid hck
      have HXA : Hid (Ext wr (wr.alloc (.cells #[.bool b2, .pointer (some ⟨kt, 10, none⟩)] 187))) := Lib.hid ((Ext.refl wr).alloc _)
      clear hbk hck
      go_wp2_with fail
      rename_i K0 a0
      refine a0 _ _ ?_
      rw [show ((#[.bool b0, .pointer (some ⟨kt, 8, none⟩), .bool b1, .pointer (some ⟨kt, 9, none⟩), .bool b2, .pointer (some ⟨kt, 10, none⟩), .bool gw, .pointer (some ⟨kt, 1, none⟩)] : Array Value).extract (Int.toNat 2 * (Try.prog.types[187]'(of_decide_eq_true (by kernel_rfl))).size) (Int.toNat 2 * (Try.prog.types[187]'(of_decide_eq_true (by kernel_rfl))).size + (Try.prog.types[187]'(of_decide_eq_true (by kernel_rfl))).size)) = (#[.bool b2, .pointer (some ⟨kt, 10, none⟩)] : Array Value) from rfl]
      cases b2
      · go_wp2
        go_roundw
        case rel =>
          have hn : Blk _ kt #[.int .i64 legs, .int .i64 (cntK gw 3 3 won), .int .i64 (wrap64 (visits + 1)), .int .i64 (wrap64 (points + gs)), .int .i64 (wrap64 (dl + xl)), .int .i64 (wrap64 (dh + xh)), .int .i64 (wrap64 (tl + yl)), .int .i64 (wrap64 (th + yh)), .int .i64 (cntK b0 0 3 tons), .int .i64 (cntK b1 1 3 highs), .int .i64 (cntK false 2 3 tops), .int .i64 best] := HBK.out.ext HXA.out
          exact ⟨3, by omega, rfl, hn, HCK.out.ext' HXA.out⟩
        case measure => simp [intOf]
      · have r0 := HBK.out.cell 10 (v := .int .i64 tops) rfl
        have rf0 := HBK.out.frozen 10
        have rl := HBK.out.lt
        go_wp2
        go_roundw
        case rel =>
          have hn : Blk _ kt #[.int .i64 legs, .int .i64 (cntK gw 3 2 won), .int .i64 (wrap64 (visits + 1)), .int .i64 (wrap64 (points + gs)), .int .i64 (wrap64 (dl + xl)), .int .i64 (wrap64 (dh + xh)), .int .i64 (wrap64 (tl + yl)), .int .i64 (wrap64 (th + yh)), .int .i64 (cntK b0 0 2 tons), .int .i64 (cntK b1 1 2 highs), .int .i64 (wrap64 (tops + 1)), .int .i64 best] := HBK.out.set 10 (.int .i64 (wrap64 (tops + 1)))
          exact ⟨3, by omega, rfl, hn.alloc _, (HCK.out.setCell (.inr rfl) _).alloc _⟩
        case measure => simp [intOf]
    · have e0 : ((3 : Nat) : Int) = 3 := rfl
      rw [e0]
      clear e0
      have HBK : Hid (Blk wr kt #[.int .i64 legs, .int .i64 (cntK gw 3 3 won), .int .i64 (wrap64 (visits + 1)), .int .i64 (wrap64 (points + gs)), .int .i64 (wrap64 (dl + xl)), .int .i64 (wrap64 (dh + xh)), .int .i64 (wrap64 (tl + yl)), .int .i64 (wrap64 (th + yh)), .int .i64 (cntK b0 0 3 tons), .int .i64 (cntK b1 1 3 highs), .int .i64 (cntK b2 2 3 tops), .int .i64 best]) := Lib.hid hbk
      have HCK := Lib.hid hck
      have HXA : Hid (Ext wr (wr.alloc (.cells #[.bool gw, .pointer (some ⟨kt, 1, none⟩)] 187))) := Lib.hid ((Ext.refl wr).alloc _)
      clear hbk hck
      go_wp2_with fail
      rename_i K0 a0
      refine a0 _ _ ?_
      rw [show ((#[.bool b0, .pointer (some ⟨kt, 8, none⟩), .bool b1, .pointer (some ⟨kt, 9, none⟩), .bool b2, .pointer (some ⟨kt, 10, none⟩), .bool gw, .pointer (some ⟨kt, 1, none⟩)] : Array Value).extract (Int.toNat 3 * (Try.prog.types[187]'(of_decide_eq_true (by kernel_rfl))).size) (Int.toNat 3 * (Try.prog.types[187]'(of_decide_eq_true (by kernel_rfl))).size + (Try.prog.types[187]'(of_decide_eq_true (by kernel_rfl))).size)) = (#[.bool gw, .pointer (some ⟨kt, 1, none⟩)] : Array Value) from rfl]
      cases gw
      · go_wp2
        go_roundw
        case rel =>
          have hn : Blk _ kt #[.int .i64 legs, .int .i64 (cntK false 3 4 won), .int .i64 (wrap64 (visits + 1)), .int .i64 (wrap64 (points + gs)), .int .i64 (wrap64 (dl + xl)), .int .i64 (wrap64 (dh + xh)), .int .i64 (wrap64 (tl + yl)), .int .i64 (wrap64 (th + yh)), .int .i64 (cntK b0 0 4 tons), .int .i64 (cntK b1 1 4 highs), .int .i64 (cntK b2 2 4 tops), .int .i64 best] := HBK.out.ext HXA.out
          exact ⟨4, by omega, rfl, hn, HCK.out.ext' HXA.out⟩
        case measure => simp [intOf]
      · have r0 := HBK.out.cell 1 (v := .int .i64 won) rfl
        have rf0 := HBK.out.frozen 1
        have rl := HBK.out.lt
        go_wp2
        go_roundw
        case rel =>
          have hn : Blk _ kt #[.int .i64 legs, .int .i64 (wrap64 (won + 1)), .int .i64 (wrap64 (visits + 1)), .int .i64 (wrap64 (points + gs)), .int .i64 (wrap64 (dl + xl)), .int .i64 (wrap64 (dh + xh)), .int .i64 (wrap64 (tl + yl)), .int .i64 (wrap64 (th + yh)), .int .i64 (cntK b0 0 3 tons), .int .i64 (cntK b1 1 3 highs), .int .i64 (cntK b2 2 3 tops), .int .i64 best] := HBK.out.set 1 (.int .i64 (wrap64 (won + 1)))
          exact ⟨4, by omega, rfl, hn.alloc _, (HCK.out.setCell (.inr rfl) _).alloc _⟩
        case measure => simp [intOf]
    · have e0 : ((4 : Nat) : Int) = 4 := rfl
      rw [e0]
      clear e0
      have HBK : Hid (Blk wr kt #[.int .i64 legs, .int .i64 (cntK gw 3 4 won), .int .i64 (wrap64 (visits + 1)), .int .i64 (wrap64 (points + gs)), .int .i64 (wrap64 (dl + xl)), .int .i64 (wrap64 (dh + xh)), .int .i64 (wrap64 (tl + yl)), .int .i64 (wrap64 (th + yh)), .int .i64 (cntK b0 0 4 tons), .int .i64 (cntK b1 1 4 highs), .int .i64 (cntK b2 2 4 tops), .int .i64 best]) := Lib.hid hbk
      have HCK := Lib.hid hck
      have HKR : Hid (Blk wr (B + 1) #[.int .i64 gs, .bool gw]) := Lib.hid (HK5.out.chg hck HNE.out.2)
      have HCA : Hid (Chg (· = kt) w wr) := Lib.hid (((HX1.out.chg _).trans HC4.out).trans ((HX5.out.chg _).trans hck))
      clear hbk hck
      have g0 := HKR.out.cell 0 (v := .int .i64 gs) rfl
      have g1 := HKR.out.cell 1 (v := .bool gw) rfl
      have gl := HKR.out.lt
      cases gw
      · go_wp2
        have hRe : R = ⟨legs, cntK false 3 4 won, wrap64 (visits + 1), wrap64 (points + gs), ⟨wrap64 (dl + xl), wrap64 (dh + xh)⟩, ⟨wrap64 (tl + yl), wrap64 (th + yh)⟩, cntK b0 0 4 tons, cntK b1 1 4 highs, cntK b2 2 4 tops, best⟩ := by
          rw [← HRR.out]
          unfold sumS
          rw [← cntK_if HBS.out.1 (by decide) tons, ← cntK_if HBS.out.2.1 (by decide) highs, ← cntK_if (show decide (gs = 180) = b2 from HBS.out.2.2) (by decide) tops]
  
          rfl
        refine bodyPost_end (results_none rfl _ _ _) rfl ⟨rfl, ?_, HCA.out⟩
        rw [hRe]
        exact HBK.out
      · clear g0
        cases hm : decide (gs ≤ best)
        · have hmx : ¬ gs ≤ best := of_decide_eq_false hm
          have g0 : ∀ y : Lat (fun b _ => b = kt) wr, y.world.cell? ⟨B + 1, 0, none⟩ = some (.int .i64 gs) := fun y => (HKR.out.chg y.chg (by rintro ⟨_, e⟩; exact HNE.out.2 e)).cell 0 rfl
          go_upto_region 11 with fail
          refine wp_region_lat (by kernel_rfl) (fun b _ => b = kt) (fun k => (k == 5) || ((k == 12))) (RsIs [(5, .int .i64 best)]) (fun L _ W => Blk W kt (bif L 12 then #[.int .i64 legs, .int .i64 (cntK true 3 4 won), .int .i64 (wrap64 (visits + 1)), .int .i64 (wrap64 (points + gs)), .int .i64 (wrap64 (dl + xl)), .int .i64 (wrap64 (dh + xh)), .int .i64 (wrap64 (tl + yl)), .int .i64 (wrap64 (th + yh)), .int .i64 (cntK b0 0 4 tons), .int .i64 (cntK b1 1 4 highs), .int .i64 (cntK b2 2 4 tops), .int .i64 gs] else #[.int .i64 legs, .int .i64 (cntK true 3 4 won), .int .i64 (wrap64 (visits + 1)), .int .i64 (wrap64 (points + gs)), .int .i64 (wrap64 (dl + xl)), .int .i64 (wrap64 (dh + xh)), .int .i64 (wrap64 (tl + yl)), .int .i64 (wrap64 (th + yh)), .int .i64 (cntK b0 0 4 tons), .int .i64 (cntK b1 1 4 highs), .int .i64 (cntK b2 2 4 tops), .int .i64 best])) (by kernel_rfl)
            (fun k hk => by
              simp only [Bool.or_eq_true, beq_iff_eq] at hk
              rcases hk with rfl | rfl <;> decide)
            (fun L L' u w' h hg => by first | (rw [h 12 (by rfl)]; exact hg) | exact hg) (fun L u a b h hx => h.ext hx) (rsW [(5, .int .i64 best)]) (fun k _ => rsW_ok _ k) (HBK.out.ext (Ext.refl wr).drew) ?_
          intro T hT hne2 u hu
          have e_5 : u 5 = .int .i64 best := hu 5 rfl
          refine lx_next 5 (by rfl) (by decide) ?_
          dsimp only [List.take, List.drop]
          repeat (go_big_quiet_step (fail))
          refine wpQuiet_nil ?_
          refine lx_loud (by rfl) (by kernel_rfl) ?_ (fun K hK => ?_)
          · intro L w4 hL hd hcl hC hs
            obtain ⟨y, rfl⟩ := hC
            have d12 := hcl.off hL 40 12 (by kernel_rfl)
            rw [d12] at hs
            have hs : Blk y.world kt #[.int .i64 legs, .int .i64 (cntK true 3 4 won), .int .i64 (wrap64 (visits + 1)), .int .i64 (wrap64 (points + gs)), .int .i64 (wrap64 (dl + xl)), .int .i64 (wrap64 (dh + xh)), .int .i64 (wrap64 (tl + yl)), .int .i64 (wrap64 (th + yh)), .int .i64 (cntK b0 0 4 tons), .int .i64 (cntK b1 1 4 highs), .int .i64 (cntK b2 2 4 tops), .int .i64 best] := hs
            have r0 := hs.cell 11 (v := .int .i64 best) rfl
            have rl := hs.lt
            have HS := Lib.hid hs
            have D12 := Lib.hid d12
            have HLL := Lib.hid hL
            clear hs hd hcl hL d12
            go_wp2
            exact ⟨rfl, ⟨y, rfl⟩, by first | (rw [show upd L 5 12 = L 12 from rfl, D12.out]; exact HS.out) | exact HS.out⟩
          rw [e_5]
          go_simp
          with_reducible refine hK _ ?_
          clear hK K
          refine lx_next 6 (by rfl) (by decide) ?_
          dsimp only [List.take, List.drop]
          repeat (go_big_quiet_step (fail))
          refine wpQuiet_nil ?_
          refine lx_loud (by rfl) (by kernel_rfl) ?_ (fun K hK => ?_)
          · intro L w4 hL hd hcl hC hs
            obtain ⟨y, rfl⟩ := hC
            rw [hL] at hs
            have hs : Blk y.world kt #[.int .i64 legs, .int .i64 (cntK true 3 4 won), .int .i64 (wrap64 (visits + 1)), .int .i64 (wrap64 (points + gs)), .int .i64 (wrap64 (dl + xl)), .int .i64 (wrap64 (dh + xh)), .int .i64 (wrap64 (tl + yl)), .int .i64 (wrap64 (th + yh)), .int .i64 (cntK b0 0 4 tons), .int .i64 (cntK b1 1 4 highs), .int .i64 (cntK b2 2 4 tops), .int .i64 best] := hs
            have r0 := hs.cell 11 (v := .int .i64 best) rfl
            have rf0 := hs.frozen 11
            have rl := hs.lt
            have HS := Lib.hid hs
            have HLL := Lib.hid hL
            clear hs hd hcl hL
            go_wp2
            have hb0 : Blk _ kt #[.int .i64 legs, .int .i64 (cntK true 3 4 won), .int .i64 (wrap64 (visits + 1)), .int .i64 (wrap64 (points + gs)), .int .i64 (wrap64 (dl + xl)), .int .i64 (wrap64 (dh + xh)), .int .i64 (wrap64 (tl + yl)), .int .i64 (wrap64 (th + yh)), .int .i64 (cntK b0 0 4 tons), .int .i64 (cntK b1 1 4 highs), .int .i64 (cntK b2 2 4 tops), .int .i64 gs] := HS.out.set 11 (.int .i64 gs)
            exact ⟨trivial, ⟨y.chgd ((Chg.refl (· = kt) y.world).setCell (.inr rfl) (.int .i64 gs)) (fun b hb => .inr fun _ => hb), rfl⟩, by first | (rw [show upd L 12 12 = true from rfl]; exact hb0) | exact hb0⟩
          go_simp
          with_reducible refine hK _ ?_
          clear hK K
          refine lx_nil ?_
          intro y hs
          have HTE : Hid (Blk y.world kt #[.int .i64 legs, .int .i64 (cntK true 3 4 won), .int .i64 (wrap64 (visits + 1)), .int .i64 (wrap64 (points + gs)), .int .i64 (wrap64 (dl + xl)), .int .i64 (wrap64 (dh + xh)), .int .i64 (wrap64 (tl + yl)), .int .i64 (wrap64 (th + yh)), .int .i64 (cntK b0 0 4 tons), .int .i64 (cntK b1 1 4 highs), .int .i64 (cntK b2 2 4 tops), .int .i64 gs]) := Lib.hid hs
          have HCwe : Hid (Chg (· = kt) wr y.world) := Lib.hid (y.chg.mono (by rintro q - ⟨_, e⟩; exact e))
          clear hs hu hT hne2 e_5 g0 g1 gl
          generalize y.world = we at *
          clear y
          go_wp2
          have hRe : R = ⟨legs, cntK true 3 4 won, wrap64 (visits + 1), wrap64 (points + gs), ⟨wrap64 (dl + xl), wrap64 (dh + xh)⟩, ⟨wrap64 (tl + yl), wrap64 (th + yh)⟩, cntK b0 0 4 tons, cntK b1 1 4 highs, cntK b2 2 4 tops, gs⟩ := by
            rw [← HRR.out]
            unfold sumS
            rw [← cntK_if HBS.out.1 (by decide) tons, ← cntK_if HBS.out.2.1 (by decide) highs, ← cntK_if (show decide (gs = 180) = b2 from HBS.out.2.2) (by decide) tops]
            rw [show max best gs = gs by omega]
            rfl
          refine bodyPost_end (results_none rfl _ _ _) rfl ⟨rfl, ?_, HCA.out.trans HCwe.out⟩
          rw [hRe]
          exact HTE.out
        · have hmx : gs ≤ best := of_decide_eq_true hm
          have g0 : ∀ y : Lat (fun b _ => b = kt) wr, y.world.cell? ⟨B + 1, 0, none⟩ = some (.int .i64 gs) := fun y => (HKR.out.chg y.chg (by rintro ⟨_, e⟩; exact HNE.out.2 e)).cell 0 rfl
          go_upto_region 11 with fail
          refine wp_region_lat (by kernel_rfl) (fun b _ => b = kt) (fun k => (k == 5) || ((k == 12))) (RsIs [(5, .int .i64 best)]) (fun L _ W => Blk W kt (bif L 12 then #[.int .i64 legs, .int .i64 (cntK true 3 4 won), .int .i64 (wrap64 (visits + 1)), .int .i64 (wrap64 (points + gs)), .int .i64 (wrap64 (dl + xl)), .int .i64 (wrap64 (dh + xh)), .int .i64 (wrap64 (tl + yl)), .int .i64 (wrap64 (th + yh)), .int .i64 (cntK b0 0 4 tons), .int .i64 (cntK b1 1 4 highs), .int .i64 (cntK b2 2 4 tops), .int .i64 best] else #[.int .i64 legs, .int .i64 (cntK true 3 4 won), .int .i64 (wrap64 (visits + 1)), .int .i64 (wrap64 (points + gs)), .int .i64 (wrap64 (dl + xl)), .int .i64 (wrap64 (dh + xh)), .int .i64 (wrap64 (tl + yl)), .int .i64 (wrap64 (th + yh)), .int .i64 (cntK b0 0 4 tons), .int .i64 (cntK b1 1 4 highs), .int .i64 (cntK b2 2 4 tops), .int .i64 best])) (by kernel_rfl)
            (fun k hk => by
              simp only [Bool.or_eq_true, beq_iff_eq] at hk
              rcases hk with rfl | rfl <;> decide)
            (fun L L' u w' h hg => by first | (rw [h 12 (by rfl)]; exact hg) | exact hg) (fun L u a b h hx => h.ext hx) (rsW [(5, .int .i64 best)]) (fun k _ => rsW_ok _ k) (HBK.out.ext (Ext.refl wr).drew) ?_
          intro T hT hne2 u hu
          have e_5 : u 5 = .int .i64 best := hu 5 rfl
          refine lx_next 5 (by rfl) (by decide) ?_
          dsimp only [List.take, List.drop]
          repeat (go_big_quiet_step (fail))
          refine wpQuiet_nil ?_
          refine lx_loud (by rfl) (by kernel_rfl) ?_ (fun K hK => ?_)
          · intro L w4 hL hd hcl hC hs
            obtain ⟨y, rfl⟩ := hC
            have d12 := hcl.off hL 40 12 (by kernel_rfl)
            rw [d12] at hs
            have hs : Blk y.world kt #[.int .i64 legs, .int .i64 (cntK true 3 4 won), .int .i64 (wrap64 (visits + 1)), .int .i64 (wrap64 (points + gs)), .int .i64 (wrap64 (dl + xl)), .int .i64 (wrap64 (dh + xh)), .int .i64 (wrap64 (tl + yl)), .int .i64 (wrap64 (th + yh)), .int .i64 (cntK b0 0 4 tons), .int .i64 (cntK b1 1 4 highs), .int .i64 (cntK b2 2 4 tops), .int .i64 best] := hs
            have r0 := hs.cell 11 (v := .int .i64 best) rfl
            have rl := hs.lt
            have HS := Lib.hid hs
            have D12 := Lib.hid d12
            have HLL := Lib.hid hL
            clear hs hd hcl hL d12
            go_wp2
            exact ⟨rfl, ⟨y, rfl⟩, by first | (rw [show upd L 5 12 = L 12 from rfl, D12.out]; exact HS.out) | exact HS.out⟩
          rw [e_5]
          go_simp
          with_reducible refine hK _ ?_
          clear hK K
          refine lx_next 6 (by rfl) (by decide) ?_
          dsimp only [List.take, List.drop]
          repeat (go_big_quiet_step (fail))
          refine wpQuiet_nil ?_
          refine lx_loud (by rfl) (by kernel_rfl) ?_ (fun K hK => ?_)
          · intro L w4 hL hd hcl hC hs
            obtain ⟨y, rfl⟩ := hC
            rw [hL] at hs
            have hs : Blk y.world kt #[.int .i64 legs, .int .i64 (cntK true 3 4 won), .int .i64 (wrap64 (visits + 1)), .int .i64 (wrap64 (points + gs)), .int .i64 (wrap64 (dl + xl)), .int .i64 (wrap64 (dh + xh)), .int .i64 (wrap64 (tl + yl)), .int .i64 (wrap64 (th + yh)), .int .i64 (cntK b0 0 4 tons), .int .i64 (cntK b1 1 4 highs), .int .i64 (cntK b2 2 4 tops), .int .i64 best] := hs
            have r0 := hs.cell 11 (v := .int .i64 best) rfl
            have rf0 := hs.frozen 11
            have rl := hs.lt
            have HS := Lib.hid hs
            have HLL := Lib.hid hL
            clear hs hd hcl hL
            go_wp2
            have hb0 : Blk _ kt #[.int .i64 legs, .int .i64 (cntK true 3 4 won), .int .i64 (wrap64 (visits + 1)), .int .i64 (wrap64 (points + gs)), .int .i64 (wrap64 (dl + xl)), .int .i64 (wrap64 (dh + xh)), .int .i64 (wrap64 (tl + yl)), .int .i64 (wrap64 (th + yh)), .int .i64 (cntK b0 0 4 tons), .int .i64 (cntK b1 1 4 highs), .int .i64 (cntK b2 2 4 tops), .int .i64 best] := HS.out.set 11 (.int .i64 best)
            exact ⟨trivial, ⟨y.chgd ((Chg.refl (· = kt) y.world).setCell (.inr rfl) (.int .i64 best)) (fun b hb => .inr fun _ => hb), rfl⟩, by first | (rw [show upd L 12 12 = true from rfl]; exact hb0) | exact hb0⟩
          go_simp
          with_reducible refine hK _ ?_
          clear hK K
          refine lx_nil ?_
          intro y hs
          have HTE : Hid (Blk y.world kt #[.int .i64 legs, .int .i64 (cntK true 3 4 won), .int .i64 (wrap64 (visits + 1)), .int .i64 (wrap64 (points + gs)), .int .i64 (wrap64 (dl + xl)), .int .i64 (wrap64 (dh + xh)), .int .i64 (wrap64 (tl + yl)), .int .i64 (wrap64 (th + yh)), .int .i64 (cntK b0 0 4 tons), .int .i64 (cntK b1 1 4 highs), .int .i64 (cntK b2 2 4 tops), .int .i64 best]) := Lib.hid hs
          have HCwe : Hid (Chg (· = kt) wr y.world) := Lib.hid (y.chg.mono (by rintro q - ⟨_, e⟩; exact e))
          clear hs hu hT hne2 e_5 g0 g1 gl
          generalize y.world = we at *
          clear y
          go_wp2
          have hRe : R = ⟨legs, cntK true 3 4 won, wrap64 (visits + 1), wrap64 (points + gs), ⟨wrap64 (dl + xl), wrap64 (dh + xh)⟩, ⟨wrap64 (tl + yl), wrap64 (th + yh)⟩, cntK b0 0 4 tons, cntK b1 1 4 highs, cntK b2 2 4 tops, best⟩ := by
            rw [← HRR.out]
            unfold sumS
            rw [← cntK_if HBS.out.1 (by decide) tons, ← cntK_if HBS.out.2.1 (by decide) highs, ← cntK_if (show decide (gs = 180) = b2 from HBS.out.2.2) (by decide) tops]
            rw [show max best gs = best by omega]
            rfl
          refine bodyPost_end (results_none rfl _ _ _) rfl ⟨rfl, ?_, HCA.out.trans HCwe.out⟩
          rw [hRe]
          exact HTE.out

end Go.Proofs.Ytmopadnkjlodnaa
