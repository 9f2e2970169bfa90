/-
  The reference of chapter 6: Add, Sum.
-/
import Derived.Test.YtmopadnkjlodnaaRhd
import Derived.Test.YtmopadnkjlodnaaMad
import Derived.Test.YtmopadnkjlodnaaMog
import Derived.Deep.DeepCutAuto
namespace Go.Proofs.Ytmopadnkjlodnaa
open Go.RowKit Go.BigFrame
attribute [local go_sem] Oper.semAt_some Later.cell Later.frozen Lat.cell Lat.frozen NoX
theorem ref_Add (al ah bl bh : Int) (w : World) : Calls Try.prog 91 #[.agg #[.int .i64 al, .int .i64 ah], .agg #[.int .i64 bl, .int .i64 bh]] w fun e w' => e = .returned (.agg #[.int .i64 (wrap64 (al + bl)), .int .i64 (wrap64 (ah + bh))]) ∧ Ext w w' := by
  go_enter Try.func91, Try.ntmps91
  go_wp2
  refine bodyPost_ret (v := .agg #[.int .i64 (wrap64 (al + bl)), .int .i64 (wrap64 (ah + bh))]) (by simp [results, Try.results91, go_sem]) rfl ⟨rfl, (((Ext.refl w).alloc _).alloc _).alloc _⟩
set_option maxRecDepth 100000 in
set_option maxHeartbeats 8000000 in
theorem ref_Sum (t : Tot) (x : Ex) (g : Gl) (w : World) :
    Calls Try.prog 69 #[.agg #[.int .i64 t.legs, .int .i64 t.won, .int .i64 t.visits, .int .i64 t.points, .int .i64 t.darts.lo, .int .i64 t.darts.hi, .int .i64 t.tried.lo, .int .i64 t.tried.hi, .int .i64 t.tons, .int .i64 t.highs, .int .i64 t.tops, .int .i64 t.best], .agg #[.int .i64 x.dl, .int .i64 x.dh, .int .i64 x.tl, .int .i64 x.th], .int .i64 g.score, .bool g.wins] w fun e w' => e = .returned (.agg #[.int .i64 ((sumS t x g).legs), .int .i64 ((sumS t x g).won), .int .i64 ((sumS t x g).visits), .int .i64 ((sumS t x g).points), .int .i64 ((sumS t x g).darts.lo), .int .i64 ((sumS t x g).darts.hi), .int .i64 ((sumS t x g).tried.lo), .int .i64 ((sumS t x g).tried.hi), .int .i64 ((sumS t x g).tons), .int .i64 ((sumS t x g).highs), .int .i64 ((sumS t x g).tops), .int .i64 ((sumS t x g).best)]) ∧ Ext w w' := by
  obtain ⟨R, hR⟩ : ∃ r, sumS t x g = r := ⟨_, rfl⟩
  rw [hR]
  have HRR := Lib.hid hR
  obtain ⟨legs, won, visits, points, ⟨dl, dh⟩, ⟨tl, th⟩, tons, highs, tops, best⟩ := t
  obtain ⟨xl, xh, yl, yh, xs⟩ := x
  obtain ⟨gs, gw⟩ := g
  simp only
  clear hR
  obtain ⟨T1, hT1⟩ : ∃ y, (if 100 ≤ gs then wrap64 (tons + 1) else tons) = y := ⟨_, rfl⟩
  obtain ⟨T2, hT2⟩ : ∃ y, (if 140 ≤ gs then wrap64 (highs + 1) else highs) = y := ⟨_, rfl⟩
  obtain ⟨T3, hT3⟩ : ∃ y, (if gs = 180 then wrap64 (tops + 1) else tops) = y := ⟨_, rfl⟩
  obtain ⟨T4, hT4⟩ : ∃ y, (if gw = true then wrap64 (won + 1) else won) = y := ⟨_, rfl⟩
  obtain ⟨T5, hT5⟩ : ∃ y, (if gw = true then max best gs else best) = y := ⟨_, rfl⟩
  have H1 := Lib.hid hT1
  have H2 := Lib.hid hT2
  have H3 := Lib.hid hT3
  have H4 := Lib.hid hT4
  have H5 := Lib.hid hT5
  have HRE : Hid (R = ⟨legs, T4, wrap64 (visits + 1), wrap64 (points + gs), ⟨wrap64 (dl + xl), wrap64 (dh + xh)⟩, ⟨wrap64 (tl + yl), wrap64 (th + yh)⟩, T1, T2, T3, T5⟩) := Lib.hid (by rw [← HRR.out, ← hT1, ← hT2, ← hT3, ← hT4, ← hT5]; rfl)
  clear hT1 hT2 hT3 hT4 hT5 HRR
  go_enter Try.func69, Try.ntmps69
  go_upto_region 1 with fail
  obtain ⟨w1, hw1⟩ : ∃ y, y = ((w.alloc (.cells #[.int .i64 legs, .int .i64 won, .int .i64 visits, .int .i64 points, .int .i64 dl, .int .i64 dh, .int .i64 tl, .int .i64 th, .int .i64 tons, .int .i64 highs, .int .i64 tops, .int .i64 best] 55)).alloc (.cells #[.int .i64 xl, .int .i64 xh, .int .i64 yl, .int .i64 yh] 45)).alloc (.cells #[.int .i64 0, .int .i64 0, .int .i64 0, .int .i64 0, .int .i64 0, .int .i64 0, .int .i64 0, .int .i64 0, .int .i64 0, .int .i64 0, .int .i64 0, .int .i64 0] 55) := ⟨_, rfl⟩
  obtain ⟨kt, hkt⟩ : ∃ y, y = w.heap.size := ⟨_, rfl⟩
  rw [← hw1, ← hkt]
  have HX1 : Hid (Ext w w1) := Lib.hid (by rw [hw1]; exact (((Ext.refl w).alloc _).alloc _).alloc _)
  have HT1 : Hid (Blk w1 kt #[.int .i64 legs, .int .i64 won, .int .i64 visits, .int .i64 points, .int .i64 dl, .int .i64 dh, .int .i64 tl, .int .i64 th, .int .i64 tons, .int .i64 highs, .int .i64 tops, .int .i64 best]) := Lib.hid (by rw [hw1, hkt]; exact ((Blk.new w _ _).alloc _).alloc _)
  have K5 : Hid (Blk w1 (kt + 1) #[.int .i64 xl, .int .i64 xh, .int .i64 yl, .int .i64 yh]) := Lib.hid (by rw [hw1]; exact (Blk.at _ (by simp [hkt])).alloc _)
  have K8 : Hid (Blk w1 (kt + 1 + 1) #[.int .i64 0, .int .i64 0, .int .i64 0, .int .i64 0, .int .i64 0, .int .i64 0, .int .i64 0, .int .i64 0, .int .i64 0, .int .i64 0, .int .i64 0, .int .i64 0]) := Lib.hid (by rw [hw1]; exact Blk.at _ (by simp [hkt]))
  have HKT : Hid (w.heap.size = kt) := Lib.hid hkt.symm
  clear hw1 hkt
  have t2 := HT1.out.cell 2 (v := .int .i64 visits) rfl
  have tf2 := HT1.out.frozen 2
  have tl0 := HT1.out.lt
  go_upto_region 2 with fail
  have hT2 : Blk _ kt #[.int .i64 legs, .int .i64 won, .int .i64 (wrap64 (visits + 1)), .int .i64 points, .int .i64 dl, .int .i64 dh, .int .i64 tl, .int .i64 th, .int .i64 tons, .int .i64 highs, .int .i64 tops, .int .i64 best] := HT1.out.set 2 (.int .i64 (wrap64 (visits + 1)))
  have hC2 : Chg (· = kt) w1 _ := (Chg.refl (· = kt) w1).setCell (p := ⟨kt, 2, none⟩) (.inr rfl) (.int .i64 (wrap64 (visits + 1)))
  generalize World.setCell _ _ _ = w2 at hT2 hC2 ⊢
  have HT2 := Lib.hid hT2
  have HC2 := Lib.hid hC2
  clear t2 tf2 tl0 hT2 hC2
  have t2 := HT2.out.cell 3 (v := .int .i64 points) rfl
  have tf2 := HT2.out.frozen 3
  have tl0 := HT2.out.lt
  go_upto_region 3 with fail
  have hT3 : Blk _ kt #[.int .i64 legs, .int .i64 won, .int .i64 (wrap64 (visits + 1)), .int .i64 (wrap64 (points + gs)), .int .i64 dl, .int .i64 dh, .int .i64 tl, .int .i64 th, .int .i64 tons, .int .i64 highs, .int .i64 tops, .int .i64 best] := HT2.out.set 3 (.int .i64 (wrap64 (points + gs)))
  have hC3 : Chg (· = kt) w1 _ := HC2.out.trans ((Chg.refl (· = kt) w2).setCell (p := ⟨kt, 3, none⟩) (.inr rfl) (.int .i64 (wrap64 (points + gs))))
  generalize World.setCell _ _ _ = w3 at hT3 hC3 ⊢
  have HT3 := Lib.hid hT3
  have HC3 := Lib.hid hC3
  clear t2 tf2 tl0 hT3 hC3
  have x0 : ∀ y : Lat (fun b _ => b = kt) w3, y.world.cell? ⟨kt + 1, 0, none⟩ = some (.int .i64 xl) := fun y => ((K5.out.chg HC3.out (by omega)).chg y.chg (by rintro ⟨_, e⟩; omega)).cell 0 rfl
  have x1 : ∀ y : Lat (fun b _ => b = kt) w3, y.world.cell? ⟨kt + 1, 1, none⟩ = some (.int .i64 xh) := fun y => ((K5.out.chg HC3.out (by omega)).chg y.chg (by rintro ⟨_, e⟩; omega)).cell 1 rfl
  have x2 : ∀ y : Lat (fun b _ => b = kt) w3, y.world.cell? ⟨kt + 1, 2, none⟩ = some (.int .i64 yl) := fun y => ((K5.out.chg HC3.out (by omega)).chg y.chg (by rintro ⟨_, e⟩; omega)).cell 2 rfl
  have x3 : ∀ y : Lat (fun b _ => b = kt) w3, y.world.cell? ⟨kt + 1, 3, none⟩ = some (.int .i64 yh) := fun y => ((K5.out.chg HC3.out (by omega)).chg y.chg (by rintro ⟨_, e⟩; omega)).cell 3 rfl
  have xbl : kt + 1 < w3.heap.size := (K5.out.chg HC3.out (by omega)).lt
  refine wp_region_lat (by kernel_rfl) (fun b _ => b = kt) (fun k => (k == 1) || ((k == 6) || ((k == 11) || ((k == 13))))) (RsIs [(1, .agg #[.int .i64 dl, .int .i64 dh]), (6, .agg #[.int .i64 tl, .int .i64 th])]) (fun L _ W => Blk W kt (bif L 13 then #[.int .i64 legs, .int .i64 won, .int .i64 (wrap64 (visits + 1)), .int .i64 (wrap64 (points + gs)), .int .i64 (wrap64 (dl + xl)), .int .i64 (wrap64 (dh + xh)), .int .i64 (wrap64 (tl + yl)), .int .i64 (wrap64 (th + yh)), .int .i64 tons, .int .i64 highs, .int .i64 tops, .int .i64 best] else (bif L 11 then #[.int .i64 legs, .int .i64 won, .int .i64 (wrap64 (visits + 1)), .int .i64 (wrap64 (points + gs)), .int .i64 (wrap64 (dl + xl)), .int .i64 (wrap64 (dh + xh)), .int .i64 tl, .int .i64 th, .int .i64 tons, .int .i64 highs, .int .i64 tops, .int .i64 best] else #[.int .i64 legs, .int .i64 won, .int .i64 (wrap64 (visits + 1)), .int .i64 (wrap64 (points + gs)), .int .i64 dl, .int .i64 dh, .int .i64 tl, .int .i64 th, .int .i64 tons, .int .i64 highs, .int .i64 tops, .int .i64 best]))) (by kernel_rfl)
    (fun k hk => by
      simp only [Bool.or_eq_true, beq_iff_eq] at hk
      rcases hk with rfl | rfl | rfl | rfl <;> decide)
    (fun L L' u w' h hg => by first | (rw [h 11 (by rfl), h 13 (by rfl)]; exact hg) | exact hg) (fun L u a b h hx => h.ext hx) (rsW [(1, .agg #[.int .i64 dl, .int .i64 dh]), (6, .agg #[.int .i64 tl, .int .i64 th])]) (fun k _ => rsW_ok _ k) (HT3.out.ext (Ext.refl w3).drew) ?_
  intro T hT hne2 u hu
  have e_1 : u 1 = .agg #[.int .i64 dl, .int .i64 dh] := hu 1 rfl
  have e_6 : u 6 = .agg #[.int .i64 tl, .int .i64 th] := hu 6 rfl
  refine lx_next 1 (by rfl) (by decide) ?_
  dsimp only [List.take, List.drop]
  repeat (go_big_quiet_step (first | with_reducible refine Calls.lat hT (ref_Add dl dh xl xh _) | with_reducible refine Calls.lat hT (ref_Add tl th yl yh _)))
  refine wpQuiet_nil ?_
  refine lx_loud (by rfl) (by kernel_rfl) ?_ (fun K hK => ?_)
  · intro L w4 hL hd hcl hC hs
    obtain ⟨y, rfl⟩ := hC
    have d11 := hcl.off hL 40 11 (by kernel_rfl)
    have d13 := hcl.off hL 40 13 (by kernel_rfl)
    rw [d11, d13] at hs
    have hs : Blk y.world kt #[.int .i64 legs, .int .i64 won, .int .i64 (wrap64 (visits + 1)), .int .i64 (wrap64 (points + gs)), .int .i64 dl, .int .i64 dh, .int .i64 tl, .int .i64 th, .int .i64 tons, .int .i64 highs, .int .i64 tops, .int .i64 best] := hs
    have r0 := hs.cell 4 (v := .int .i64 dl) rfl
    have r1 := hs.cell 5 (v := .int .i64 dh) rfl
    have rl := hs.lt
    have HS := Lib.hid hs
    have D11 := Lib.hid d11
    have D13 := Lib.hid d13
    have HLL := Lib.hid hL
    clear hs hd hcl hL d11 d13
    go_wp2
    exact ⟨rfl, ⟨y, rfl⟩, by first | (rw [show upd L 1 11 = L 11 from rfl, D11.out, show upd L 1 13 = L 13 from rfl, D13.out]; exact HS.out) | exact HS.out⟩
  rw [e_1]
  go_simp
  with_reducible refine hK _ ?_
  clear hK K
  refine lx_next 4 (by rfl) (by decide) ?_
  dsimp only [List.take, List.drop]
  repeat (go_big_quiet_step (first | with_reducible refine Calls.lat hT (ref_Add dl dh xl xh _) | with_reducible refine Calls.lat hT (ref_Add tl th yl yh _)))
  refine wpQuiet_nil ?_
  refine lx_loud (by rfl) (by kernel_rfl) ?_ (fun K hK => ?_)
  · intro L w4 hL hd hcl hC hs
    obtain ⟨y, rfl⟩ := hC
    have d11 := hcl.off hL 40 11 (by kernel_rfl)
    have d13 := hcl.off hL 40 13 (by kernel_rfl)
    rw [d11, d13] at hs
    have hs : Blk y.world kt #[.int .i64 legs, .int .i64 won, .int .i64 (wrap64 (visits + 1)), .int .i64 (wrap64 (points + gs)), .int .i64 dl, .int .i64 dh, .int .i64 tl, .int .i64 th, .int .i64 tons, .int .i64 highs, .int .i64 tops, .int .i64 best] := hs
    have r0 := hs.cell 6 (v := .int .i64 tl) rfl
    have r1 := hs.cell 7 (v := .int .i64 th) rfl
    have rl := hs.lt
    have HS := Lib.hid hs
    have D11 := Lib.hid d11
    have D13 := Lib.hid d13
    have HLL := Lib.hid hL
    clear hs hd hcl hL d11 d13
    go_wp2
    exact ⟨rfl, ⟨y, rfl⟩, by first | (rw [show upd L 6 11 = L 11 from rfl, D11.out, show upd L 6 13 = L 13 from rfl, D13.out]; exact HS.out) | exact HS.out⟩
  rw [e_6]
  go_simp
  with_reducible refine hK _ ?_
  clear hK K
  refine lx_next 4 (by rfl) (by decide) ?_
  dsimp only [List.take, List.drop]
  repeat (go_big_quiet_step (first | with_reducible refine Calls.lat hT (ref_Add dl dh xl xh _) | with_reducible refine Calls.lat hT (ref_Add tl th yl yh _)))
  refine wpQuiet_nil ?_
  refine lx_loud (by rfl) (by kernel_rfl) ?_ (fun K hK => ?_)
  · intro L w4 hL hd hcl hC hs
    obtain ⟨y, rfl⟩ := hC
    have d13 := hcl.off hL 40 13 (by kernel_rfl)
    rw [hL, d13] at hs
    have hs : Blk y.world kt #[.int .i64 legs, .int .i64 won, .int .i64 (wrap64 (visits + 1)), .int .i64 (wrap64 (points + gs)), .int .i64 dl, .int .i64 dh, .int .i64 tl, .int .i64 th, .int .i64 tons, .int .i64 highs, .int .i64 tops, .int .i64 best] := hs
    have r0 := hs.cell 4 (v := .int .i64 dl) rfl
    have r1 := hs.cell 5 (v := .int .i64 dh) rfl
    have rf0 := hs.frozen 4
    have rf1 := hs.frozen 5
    have rl := hs.lt
    have HS := Lib.hid hs
    have D13 := Lib.hid d13
    have HLL := Lib.hid hL
    clear hs hd hcl hL d13
    go_wp2
    have hb0 : Blk _ kt #[.int .i64 legs, .int .i64 won, .int .i64 (wrap64 (visits + 1)), .int .i64 (wrap64 (points + gs)), .int .i64 (wrap64 (dl + xl)), .int .i64 dh, .int .i64 tl, .int .i64 th, .int .i64 tons, .int .i64 highs, .int .i64 tops, .int .i64 best] := HS.out.set 4 (.int .i64 (wrap64 (dl + xl)))
    have hb1 : Blk _ kt #[.int .i64 legs, .int .i64 won, .int .i64 (wrap64 (visits + 1)), .int .i64 (wrap64 (points + gs)), .int .i64 (wrap64 (dl + xl)), .int .i64 (wrap64 (dh + xh)), .int .i64 tl, .int .i64 th, .int .i64 tons, .int .i64 highs, .int .i64 tops, .int .i64 best] := hb0.set 5 (.int .i64 (wrap64 (dh + xh)))
    exact ⟨trivial, ⟨y.chgd (((Chg.refl (· = kt) y.world).setCell (.inr rfl) (.int .i64 (wrap64 (dl + xl)))).setCell (.inr rfl) (.int .i64 (wrap64 (dh + xh)))) (fun b hb => .inr fun _ => hb), rfl⟩, by first | (rw [show upd L 11 11 = true from rfl, show upd L 11 13 = L 13 from rfl, D13.out]; exact hb1) | exact hb0⟩
  go_simp
  with_reducible refine hK _ ?_
  clear hK K
  refine lx_next 1 (by rfl) (by decide) ?_
  dsimp only [List.take, List.drop]
  repeat (go_big_quiet_step (first | with_reducible refine Calls.lat hT (ref_Add dl dh xl xh _) | with_reducible refine Calls.lat hT (ref_Add tl th yl yh _)))
  refine wpQuiet_nil ?_
  refine lx_loud (by rfl) (by kernel_rfl) ?_ (fun K hK => ?_)
  · intro L w4 hL hd hcl hC hs
    obtain ⟨y, rfl⟩ := hC
    have d11 := hd 11 (by kernel_rfl)
    rw [hL, d11] at hs
    have hs : Blk y.world kt #[.int .i64 legs, .int .i64 won, .int .i64 (wrap64 (visits + 1)), .int .i64 (wrap64 (points + gs)), .int .i64 (wrap64 (dl + xl)), .int .i64 (wrap64 (dh + xh)), .int .i64 tl, .int .i64 th, .int .i64 tons, .int .i64 highs, .int .i64 tops, .int .i64 best] := hs
    have r0 := hs.cell 6 (v := .int .i64 tl) rfl
    have r1 := hs.cell 7 (v := .int .i64 th) rfl
    have rf0 := hs.frozen 6
    have rf1 := hs.frozen 7
    have rl := hs.lt
    have HS := Lib.hid hs
    have D11 := Lib.hid d11
    have HLL := Lib.hid hL
    clear hs hd hcl hL d11
    go_wp2
    have hb0 : Blk _ kt #[.int .i64 legs, .int .i64 won, .int .i64 (wrap64 (visits + 1)), .int .i64 (wrap64 (points + gs)), .int .i64 (wrap64 (dl + xl)), .int .i64 (wrap64 (dh + xh)), .int .i64 (wrap64 (tl + yl)), .int .i64 th, .int .i64 tons, .int .i64 highs, .int .i64 tops, .int .i64 best] := HS.out.set 6 (.int .i64 (wrap64 (tl + yl)))
    have hb1 : Blk _ kt #[.int .i64 legs, .int .i64 won, .int .i64 (wrap64 (visits + 1)), .int .i64 (wrap64 (points + gs)), .int .i64 (wrap64 (dl + xl)), .int .i64 (wrap64 (dh + xh)), .int .i64 (wrap64 (tl + yl)), .int .i64 (wrap64 (th + yh)), .int .i64 tons, .int .i64 highs, .int .i64 tops, .int .i64 best] := hb0.set 7 (.int .i64 (wrap64 (th + yh)))
    exact ⟨trivial, ⟨y.chgd (((Chg.refl (· = kt) y.world).setCell (.inr rfl) (.int .i64 (wrap64 (tl + yl)))).setCell (.inr rfl) (.int .i64 (wrap64 (th + yh)))) (fun b hb => .inr fun _ => hb), rfl⟩, by first | (rw [show upd L 13 11 = L 11 from rfl, D11.out, show upd L 13 13 = true from rfl]; exact hb1) | exact hb0⟩
  go_simp
  with_reducible refine hK _ ?_
  clear hK K
  refine lx_nil ?_
  intro y hs
  have HT : Hid (Blk y.world kt #[.int .i64 legs, .int .i64 won, .int .i64 (wrap64 (visits + 1)), .int .i64 (wrap64 (points + gs)), .int .i64 (wrap64 (dl + xl)), .int .i64 (wrap64 (dh + xh)), .int .i64 (wrap64 (tl + yl)), .int .i64 (wrap64 (th + yh)), .int .i64 tons, .int .i64 highs, .int .i64 tops, .int .i64 best]) := Lib.hid hs
  have HCw4 : Hid (Chg (· = kt) w3 y.world) := Lib.hid (y.chg.mono (by rintro q - ⟨_, e⟩; exact e))
  clear hs hu hT hne2 e_1 e_6 x0 x1 x2 x3 xbl
  generalize y.world = w4 at *
  clear y
  have HC := Lib.hid (HC3.out.trans HCw4.out)
  clear HT1 HT2 HT3 HC2 HC3 HCw4
  go_upto_if 31 with fail
  go_cut [] (fun wx => Blk wx kt #[.int .i64 legs, .int .i64 won, .int .i64 (wrap64 (visits + 1)), .int .i64 (wrap64 (points + gs)), .int .i64 (wrap64 (dl + xl)), .int .i64 (wrap64 (dh + xh)), .int .i64 (wrap64 (tl + yl)), .int .i64 (wrap64 (th + yh)), .int .i64 T1, .int .i64 highs, .int .i64 tops, .int .i64 best] ∧ Chg (· = kt) w1 wx)
  case first =>
    have t0 := HT.out.cell 8 (v := .int .i64 tons) rfl
    have tf0 := HT.out.frozen 8
    have tl0 := HT.out.lt
    by_cases hc : 100 ≤ gs
    · have e : wrap64 (tons + 1) = T1 := by rw [← H1.out, if_pos hc]
      have HE := Lib.hid e
      have HB2 := Lib.hid (HT.out.set 8 (.int .i64 (wrap64 (tons + 1))))
      clear e
      go_wp2
      go_meet
      exact ⟨by have h := HB2.out; rw [HE.out] at h ⊢; exact h, HC.out.trans ((Chg.refl (· = kt) _).setCell (.inr rfl) _)⟩
    · obtain rfl : tons = T1 := by rw [← H1.out, if_neg hc]
      go_wp2
      go_meet
      exact ⟨HT.out, HC.out⟩
  case rest =>
    obtain ⟨hT, hC⟩ := hcut
    replace HT := Lib.hid hT
    replace HC := Lib.hid hC
    clear hT hC
    go_upto_if 37 with fail
    go_cut [] (fun wx => Blk wx kt #[.int .i64 legs, .int .i64 won, .int .i64 (wrap64 (visits + 1)), .int .i64 (wrap64 (points + gs)), .int .i64 (wrap64 (dl + xl)), .int .i64 (wrap64 (dh + xh)), .int .i64 (wrap64 (tl + yl)), .int .i64 (wrap64 (th + yh)), .int .i64 T1, .int .i64 T2, .int .i64 tops, .int .i64 best] ∧ Chg (· = kt) w1 wx)
    case first =>
      have t0 := HT.out.cell 9 (v := .int .i64 highs) rfl
      have tf0 := HT.out.frozen 9
      have tl0 := HT.out.lt
      by_cases hc : 140 ≤ gs
      · have e : wrap64 (highs + 1) = T2 := by rw [← H2.out, if_pos hc]
        have HE := Lib.hid e
        have HB2 := Lib.hid (HT.out.set 9 (.int .i64 (wrap64 (highs + 1))))
        clear e
        go_wp2
        go_meet
        exact ⟨by have h := HB2.out; rw [HE.out] at h ⊢; exact h, HC.out.trans ((Chg.refl (· = kt) _).setCell (.inr rfl) _)⟩
      · obtain rfl : highs = T2 := by rw [← H2.out, if_neg hc]
        go_wp2
        go_meet
        exact ⟨HT.out, HC.out⟩
    case rest =>
      obtain ⟨hT, hC⟩ := hcut
      replace HT := Lib.hid hT
      replace HC := Lib.hid hC
      clear hT hC
      go_upto_if 43 with fail
      go_cut [] (fun wx => Blk wx kt #[.int .i64 legs, .int .i64 won, .int .i64 (wrap64 (visits + 1)), .int .i64 (wrap64 (points + gs)), .int .i64 (wrap64 (dl + xl)), .int .i64 (wrap64 (dh + xh)), .int .i64 (wrap64 (tl + yl)), .int .i64 (wrap64 (th + yh)), .int .i64 T1, .int .i64 T2, .int .i64 T3, .int .i64 best] ∧ Chg (· = kt) w1 wx)
      case first =>
        have t0 := HT.out.cell 10 (v := .int .i64 tops) rfl
        have tf0 := HT.out.frozen 10
        have tl0 := HT.out.lt
        by_cases hc : gs = 180
        · have e : wrap64 (tops + 1) = T3 := by rw [← H3.out, if_pos hc]
          have HE := Lib.hid e
          have HB2 := Lib.hid (HT.out.set 10 (.int .i64 (wrap64 (tops + 1))))
          clear e
          go_wp2
          go_meet
          exact ⟨by have h := HB2.out; rw [HE.out] at h ⊢; exact h, HC.out.trans ((Chg.refl (· = kt) _).setCell (.inr rfl) _)⟩
        · obtain rfl : tops = T3 := by rw [← H3.out, if_neg hc]
          go_wp2
          go_meet
          exact ⟨HT.out, HC.out⟩
      case rest =>
        obtain ⟨hT, hC⟩ := hcut
        replace HT := Lib.hid hT
        replace HC := Lib.hid hC
        clear hT hC
        go_upto_if 48 with fail
        go_cut [] (fun wx => Blk wx kt #[.int .i64 legs, .int .i64 T4, .int .i64 (wrap64 (visits + 1)), .int .i64 (wrap64 (points + gs)), .int .i64 (wrap64 (dl + xl)), .int .i64 (wrap64 (dh + xh)), .int .i64 (wrap64 (tl + yl)), .int .i64 (wrap64 (th + yh)), .int .i64 T1, .int .i64 T2, .int .i64 T3, .int .i64 T5] ∧ Chg (· = kt) w1 wx)
        case first =>
          have t0 := HT.out.cell 1 (v := .int .i64 won) rfl
          have tf0 := HT.out.frozen 1
          have t1 := HT.out.cell 11 (v := .int .i64 best) rfl
          have tf1 := HT.out.frozen 11
          have tl0 := HT.out.lt
          cases gw
          · obtain rfl : won = T4 := by rw [← H4.out]; rfl
            obtain rfl : best = T5 := by rw [← H5.out]; rfl
            go_wp2
            go_meet
            exact ⟨HT.out, HC.out⟩
          · have e : wrap64 (won + 1) = T4 := by rw [← H4.out]; rfl
            have e5 : max best gs = T5 := by rw [← H5.out]; rfl
            have HE := Lib.hid e
            have HE5 := Lib.hid e5
            have HB2 := Lib.hid ((HT.out.set 1 (.int .i64 (wrap64 (won + 1)))).set 11 (.int .i64 T5))
            clear e e5
            cases hm : decide (gs ≤ best)
            · have hmx : ¬ gs ≤ best := of_decide_eq_false hm
              obtain rfl : gs = T5 := by rw [← HE5.out]; omega
              go_wp2
              go_meet
              exact ⟨by have h := HB2.out; rw [HE.out] at h ⊢; exact h, (HC.out.trans ((Chg.refl (· = kt) _).setCell (.inr rfl) _)).trans ((Chg.refl (· = kt) _).setCell (.inr rfl) _)⟩
            · have hmx : gs ≤ best := of_decide_eq_true hm
              obtain rfl : best = T5 := by rw [← HE5.out]; omega
              go_wp2
              go_meet
              exact ⟨by have h := HB2.out; rw [HE.out] at h ⊢; exact h, (HC.out.trans ((Chg.refl (· = kt) _).setCell (.inr rfl) _)).trans ((Chg.refl (· = kt) _).setCell (.inr rfl) _)⟩
        case rest =>
          obtain ⟨hT, hC⟩ := hcut
          replace HT := Lib.hid hT
          replace HC := Lib.hid hC
          have HR8 := Lib.hid (K8.out.chg hC (by omega))
          clear hT hC
          have t0 := HT.out.cell 0 (v := .int .i64 legs) rfl
          have t1 := HT.out.cell 1 (v := .int .i64 T4) rfl
          have t2 := HT.out.cell 2 (v := .int .i64 (wrap64 (visits + 1))) rfl
          have t3 := HT.out.cell 3 (v := .int .i64 (wrap64 (points + gs))) rfl
          have t4 := HT.out.cell 4 (v := .int .i64 (wrap64 (dl + xl))) rfl
          have t5 := HT.out.cell 5 (v := .int .i64 (wrap64 (dh + xh))) rfl
          have t6 := HT.out.cell 6 (v := .int .i64 (wrap64 (tl + yl))) rfl
          have t7 := HT.out.cell 7 (v := .int .i64 (wrap64 (th + yh))) rfl
          have t8 := HT.out.cell 8 (v := .int .i64 T1) rfl
          have t9 := HT.out.cell 9 (v := .int .i64 T2) rfl
          have t10 := HT.out.cell 10 (v := .int .i64 T3) rfl
          have t11 := HT.out.cell 11 (v := .int .i64 T5) rfl
          have tl0 := HT.out.lt
          have r0 := HR8.out.cell 0 (v := .int .i64 0) rfl
          have rf0 := HR8.out.frozen 0
          have r1 := HR8.out.cell 1 (v := .int .i64 0) rfl
          have rf1 := HR8.out.frozen 1
          have r2 := HR8.out.cell 2 (v := .int .i64 0) rfl
          have rf2 := HR8.out.frozen 2
          have r3 := HR8.out.cell 3 (v := .int .i64 0) rfl
          have rf3 := HR8.out.frozen 3
          have r4 := HR8.out.cell 4 (v := .int .i64 0) rfl
          have rf4 := HR8.out.frozen 4
          have r5 := HR8.out.cell 5 (v := .int .i64 0) rfl
          have rf5 := HR8.out.frozen 5
          have r6 := HR8.out.cell 6 (v := .int .i64 0) rfl
          have rf6 := HR8.out.frozen 6
          have r7 := HR8.out.cell 7 (v := .int .i64 0) rfl
          have rf7 := HR8.out.frozen 7
          have r8 := HR8.out.cell 8 (v := .int .i64 0) rfl
          have rf8 := HR8.out.frozen 8
          have r9 := HR8.out.cell 9 (v := .int .i64 0) rfl
          have rf9 := HR8.out.frozen 9
          have r10 := HR8.out.cell 10 (v := .int .i64 0) rfl
          have rf10 := HR8.out.frozen 10
          have r11 := HR8.out.cell 11 (v := .int .i64 0) rfl
          have rf11 := HR8.out.frozen 11
          have rl0 := HR8.out.lt
          have HXX := Lib.hid (Chg.to_ext HX1.out ((HC.out.mono (T := fun i => i = kt ∨ i = kt + 1 + 1) (fun _ _ h => .inl h)).trans (twl_chg (fun i => i = kt ∨ i = kt + 1 + 1) _ (b := kt + 1 + 1) (.inr rfl) (.int .i64 legs) (.int .i64 T4) (.int .i64 (wrap64 (visits + 1))) (.int .i64 (wrap64 (points + gs))) (.int .i64 (wrap64 (dl + xl))) (.int .i64 (wrap64 (dh + xh))) (.int .i64 (wrap64 (tl + yl))) (.int .i64 (wrap64 (th + yh))) (.int .i64 T1) (.int .i64 T2) (.int .i64 T3) (.int .i64 T5))) (by intro i hi; have h := HKT.out; rcases hi with hi | hi <;> omega))
          have HQ := Lib.hid (twl_set HR8.out (.int .i64 legs) (.int .i64 T4) (.int .i64 (wrap64 (visits + 1))) (.int .i64 (wrap64 (points + gs))) (.int .i64 (wrap64 (dl + xl))) (.int .i64 (wrap64 (dh + xh))) (.int .i64 (wrap64 (tl + yl))) (.int .i64 (wrap64 (th + yh))) (.int .i64 T1) (.int .i64 T2) (.int .i64 T3) (.int .i64 T5))
          clear H1 H2 H3 H4 H5
          go_wp2
          generalize hW : World.setCell _ _ _ = W
          rw [hW] at HXX HQ
          have q0 := HQ.out.cell 0 (v := .int .i64 legs) rfl
          have q1 := HQ.out.cell 1 (v := .int .i64 T4) rfl
          have q2 := HQ.out.cell 2 (v := .int .i64 (wrap64 (visits + 1))) rfl
          have q3 := HQ.out.cell 3 (v := .int .i64 (wrap64 (points + gs))) rfl
          have q4 := HQ.out.cell 4 (v := .int .i64 (wrap64 (dl + xl))) rfl
          have q5 := HQ.out.cell 5 (v := .int .i64 (wrap64 (dh + xh))) rfl
          have q6 := HQ.out.cell 6 (v := .int .i64 (wrap64 (tl + yl))) rfl
          have q7 := HQ.out.cell 7 (v := .int .i64 (wrap64 (th + yh))) rfl
          have q8 := HQ.out.cell 8 (v := .int .i64 T1) rfl
          have q9 := HQ.out.cell 9 (v := .int .i64 T2) rfl
          have q10 := HQ.out.cell 10 (v := .int .i64 T3) rfl
          have q11 := HQ.out.cell 11 (v := .int .i64 T5) rfl
          refine bodyPost_ret (v := .agg #[.int .i64 legs, .int .i64 T4, .int .i64 (wrap64 (visits + 1)), .int .i64 (wrap64 (points + gs)), .int .i64 (wrap64 (dl + xl)), .int .i64 (wrap64 (dh + xh)), .int .i64 (wrap64 (tl + yl)), .int .i64 (wrap64 (th + yh)), .int .i64 T1, .int .i64 T2, .int .i64 T3, .int .i64 T5]) (by simp [results, Try.results69, go_sem, *]) rfl ⟨by rw [HRE.out], HXX.out⟩
end Go.Proofs.Ytmopadnkjlodnaa
