/-
  Package board: open, Bed.
-/
import Derived.Test.YtpifdeglhalefaaBoJ
import Derived.Test.YtpifdeglhalefaaSen
namespace Go.Proofs.Ytpifdeglhalefaa
open Go.RowKit Go.BigFrame
attribute [local go_sem] Later.cell Later.frozen Lat.cell Lat.frozen
theorem lat_set1 {X : Nat → Nat → Prop} {w : World} (x : Lat X w) {n o : Nat} (h : X n o) (v : Value) : ∃ y : Lat X w, x.world.setCell ⟨n, o, none⟩ v = y.world := ⟨x.setCell (.inr h) v, rfl⟩
theorem lat_set6 {X : Nat → Nat → Prop} {w : World} (x : Lat X w) {n : Nat} (h : ∀ o, o < 6 → X n o) (v0 v1 v2 v3 v4 v5 : Value) : ∃ y : Lat X w, ((((((x.world.setCell ⟨n, 0, none⟩ v0).setCell ⟨n, 1, none⟩ v1).setCell ⟨n, 2, none⟩ v2).setCell ⟨n, 3, none⟩ v3).setCell ⟨n, 4, none⟩ v4).setCell ⟨n, 5, none⟩ v5) = y.world := by
  obtain ⟨y0, e0⟩ := lat_set1 x (h 0 (by decide)) v0
  rw [e0]
  obtain ⟨y1, e1⟩ := lat_set1 y0 (h 1 (by decide)) v1
  rw [e1]
  obtain ⟨y2, e2⟩ := lat_set1 y1 (h 2 (by decide)) v2
  rw [e2]
  obtain ⟨y3, e3⟩ := lat_set1 y2 (h 3 (by decide)) v3
  rw [e3]
  obtain ⟨y4, e4⟩ := lat_set1 y3 (h 4 (by decide)) v4
  rw [e4]
  obtain ⟨y5, e5⟩ := lat_set1 y4 (h 5 (by decide)) v5
  rw [e5]
  exact ⟨y5, rfl⟩
theorem blk_set6 {w : World} {n : Nat} {a0 a1 a2 a3 a4 a5 : Value} (h : Blk w n #[a0, a1, a2, a3, a4, a5]) (v0 v1 v2 v3 v4 v5 : Value) : Blk ((((((w.setCell ⟨n, 0, none⟩ v0).setCell ⟨n, 1, none⟩ v1).setCell ⟨n, 2, none⟩ v2).setCell ⟨n, 3, none⟩ v3).setCell ⟨n, 4, none⟩ v4).setCell ⟨n, 5, none⟩ v5) n #[v0, v1, v2, v3, v4, v5] := by
  simpa using ((((((h.set 0 v0).set 1 v1).set 2 v2).set 3 v3).set 4 v4).set 5 v5)
def OpenG (n : Nat) (cs : Array Value) (t : Bool) (w : World) : Prop := ∃ a0 a1 a2 a3 a4 a5, Blk w n #[a0, a1, a2, a3, a4, a5] ∧ (t = true → #[a0, a1, a2, a3, a4, a5] = cs)
theorem OpenG.ext {n : Nat} {cs : Array Value} {t : Bool} {w w' : World} (h : OpenG n cs t w) (hx : Ext w w') : OpenG n cs t w' := let ⟨a0, a1, a2, a3, a4, a5, hb, he⟩ := h; ⟨a0, a1, a2, a3, a4, a5, hb.ext hx, he⟩
set_option maxHeartbeats 2000000 in
theorem brd_open (v : BrdV) (b : Brd) (w : World) (h : BrdAt w v b) (hs : SmallB b) :
    Calls Try.prog 26 #[.agg (v.cells b)] w fun e w' => e = .returned (.tuple #[.agg (v.cells b), .int .i64 (errB b)]) ∧ Ext w w' := by
  have HC := Lib.hid (fun W (hx : Ext w W) => brd_Check v b W (h.ext hx) hs)
  generalize errB b = er at *
  obtain ⟨eye, bull, rings, lines, nums, wire⟩ := b
  obtain ⟨ra, la, na, rc, lc, nc⟩ := v
  unfold BrdV.cells at *
  simp only at HC ⊢
  clear h hs
  go_enter Try.func26, Try.ntmps26
  go_upto_region 1 with fail
  obtain ⟨w1, hw1⟩ : ∃ x, x = (w.alloc (.cells #[.int .i64 eye, .int .i64 bull, .slice ra rings.length rc, .slice la lines.length lc, .slice na nums.length nc, .int .i64 wire] 27)).alloc (.cells #[.int .i64 0, .int .i64 0, .slice none 0 0, .slice none 0 0, .slice none 0 0, .int .i64 0] 90) := ⟨_, rfl⟩
  have hx1 : Ext w w1 := by rw [hw1]; exact ((Ext.refl w).alloc _).alloc _
  have hb1 : Blk w1 w.heap.size #[.int .i64 eye, .int .i64 bull, .slice ra rings.length rc, .slice la lines.length lc, .slice na nums.length nc, .int .i64 wire] := by rw [hw1]; exact (Blk.new _ _ _).alloc _
  have ht1 : Blk w1 (w.heap.size + 1) #[.int .i64 0, .int .i64 0, .slice none 0 0, .slice none 0 0, .slice none 0 0, .int .i64 0] := by rw [hw1]; exact Blk.at _ (by simp)
  rw [← hw1]
  have m0 := hb1.cell 0 (v := .int .i64 eye) rfl
  have m1 := hb1.cell 1 (v := .int .i64 bull) rfl
  have m2 := hb1.cell 2 (v := .slice ra rings.length rc) rfl
  have m3 := hb1.cell 3 (v := .slice la lines.length lc) rfl
  have m4 := hb1.cell 4 (v := .slice na nums.length nc) rfl
  have m5 := hb1.cell 5 (v := .int .i64 wire) rfl
  have hml := hb1.lt
  have hne : w.heap.size ≠ w.heap.size + 1 := by omega
  have HX1 := Lib.hid hx1
  clear hw1 hb1 hx1
  refine wp_region_lat (by kernel_rfl) (fun b' o => b' = w.heap.size + 1 ∧ o < 6) (fun k => k == 4) (fun _ _ => True) (fun L _ w' => OpenG (w.heap.size + 1) #[.int .i64 eye, .int .i64 bull, .slice ra rings.length rc, .slice la lines.length lc, .slice na nums.length nc, .int .i64 wire] (L 4) w')
    (by kernel_rfl) (fun k hk => by have : k = 4 := by simpa using hk
                                    subst this; decide) (fun L L' _ _ h hg => by rw [h 4 rfl]; exact hg) (fun L _ w' w'' hg hx => hg.ext hx) (fun _ => undef) (fun _ _ => trivial) ⟨_, _, _, _, _, _, ht1.drew, fun h => by cases h⟩ ?_
  intro T hT hne u hu
  refine lx_next 4 (by rfl) (by decide) ?_
  dsimp only [List.take, List.drop]
  repeat go_big_quiet_step (refine Calls.lat hT (HC.out _ (Chg.to_ext HX1.out (Lat.chg _) (by rintro i ⟨o, rfl, _⟩; omega))))
  refine wpQuiet_nil ?_
  refine lx_loud (by rfl) (by kernel_rfl) ?_ (fun K hK => ?_)
  · intro L w3 _ _ _ hC ⟨a0, a1, a2, a3, a4, a5, hv, _⟩
    obtain ⟨x, rfl⟩ := hC
    have f0 := hv.frozen 0
    have f1 := hv.frozen 1
    have f2 := hv.frozen 2
    have f3 := hv.frozen 3
    have f4 := hv.frozen 4
    have f5 := hv.frozen 5
    have c0 := hv.cell 0 (v := a0) rfl
    have c1 := hv.cell 1 (v := a1) rfl
    have c2 := hv.cell 2 (v := a2) rfl
    have c3 := hv.cell 3 (v := a3) rfl
    have c4 := hv.cell 4 (v := a4) rfl
    have c5 := hv.cell 5 (v := a5) rfl
    have hlt4 := hv.lt
    go_wp2
    exact ⟨lat_set6 x (fun o ho => ⟨rfl, ho⟩) _ _ _ _ _ _, _, _, _, _, _, _, blk_set6 hv _ _ _ _ _ _, fun _ => rfl⟩
  go_simp
  with_reducible refine hK _ ?_
  clear hK K
  refine lx_next 1 (by rfl) (by decide) ?_
  dsimp only [List.take, List.drop]
  repeat (go_big_quiet_step (fail))
  refine wpQuiet_nil ?_
  refine lx_nil ?_
  intro x hG
  obtain ⟨a0, a1, a2, a3, a4, a5, hv, he⟩ := hG
  have e := he rfl
  cases e
  have hx2 := Chg.to_ext HX1.out x.chg (by rintro i ⟨o, rfl, _⟩; omega)
  generalize hw3 : x.world = w3 at *
  clear x hw3
  have c0 := hv.cell 0 (v := .int .i64 eye) rfl
  have c1 := hv.cell 1 (v := .int .i64 bull) rfl
  have c2 := hv.cell 2 (v := .slice ra rings.length rc) rfl
  have c3 := hv.cell 3 (v := .slice la lines.length lc) rfl
  have c4 := hv.cell 4 (v := .slice na nums.length nc) rfl
  have c5 := hv.cell 5 (v := .int .i64 wire) rfl
  have hlt4 := hv.lt
  go_wp2
  refine bodyPost_ret (v := .tuple #[.agg #[.int .i64 eye, .int .i64 bull, .slice ra rings.length rc, .slice la lines.length lc, .slice na nums.length nc, .int .i64 wire], .int .i64 er]) (by simp [results, Try.results26, go_sem, *]) rfl ⟨rfl, hx2⟩
end Go.Proofs.Ytpifdeglhalefaa
