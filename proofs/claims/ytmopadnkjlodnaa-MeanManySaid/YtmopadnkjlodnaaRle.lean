/-
  The reference of chapter 6: Leg; the laws' package: large, copied.
-/
import Derived.Test.YtmopadnkjlodnaaLxa
import Derived.Test.YtmopadnkjlodnaaMvk
import Derived.Test.YtmopadnkjlodnaaMtd
namespace Go.Proofs.Ytmopadnkjlodnaa
open Go.RowKit Go.BigFrame
attribute [local go_sem] Oper.semAt_some Later.cell Later.frozen Lat.cell Lat.frozen NoX
theorem lawsB_eq (start gin gout : Int) (beds : List Int) : lawsB start gin gout beds = (cntB start gin gout && (bedsB beds && ins 1 82 [(beds.length : Int)])) := by
  have h : ins 0 2 [gin, gout] = (ins 0 2 [gin] && ins 0 2 [gout]) := by simp [ins, out1, Bool.and_assoc]
  unfold lawsB cntB
  rw [h]
  cases bedsB beds <;> cases ins 2 1001 [start] <;> cases ins 0 2 [gin] <;> cases ins 0 2 [gout] <;> rfl
theorem Frm.low2 {lo : Nat} {rs : List Res} {w w' : World} (h : Frm lo rs w) {S : Nat → Prop} (hx : Chg S w w') (hS : ∀ k, S k → k < lo) : Frm lo rs w' :=
  ⟨fun i r hr => let h1 := h.each i r hr; ⟨r.stable _ _ (fun k hk => hx.block k (h1.2 k hk).2 fun hs => by have := hS k hs; have := (h1.2 k hk).1; omega) h1.1, fun k hk => by have := h1.2 k hk; have := hx.size; omega⟩, h.parts⟩
/-- While a leg is copied. -/
structure CopG (w1 : World) (B : Nat) (start gin gout : Int) (beds : List Int) (ba : Option Addr) (bc : Nat) (scores : List Int) (sa : Option Addr) (sc : Nat) (won : Bool) (L : Nat → Bool) (u : Nat → Value) (W : World) : Prop where
  frm : Frm w1.heap.size [bif L 3 then Res.own w1.heap.size 99 1 (u 3) beds.length (beds.map (Value.int .i64)) else bif L 0 then Res.own w1.heap.size 99 1 (u 0) 0 [] else Res.none, bif L 7 then Res.own w1.heap.size 3 1 (u 7) scores.length (scores.map (Value.int .i64)) else bif L 4 then Res.own w1.heap.size 3 1 (u 4) 0 [] else Res.none] W
  box : Blk W B (bif L 11 then #[.int .i64 start, .int .i64 gin, .int .i64 gout, u 3, u 7, .bool won] else bif L 9 then #[.int .i64 start, .int .i64 gin, .int .i64 gout, u 3, .slice sa scores.length sc, .bool won] else #[.int .i64 start, .int .i64 gin, .int .i64 gout, .slice ba beds.length bc, .slice sa scores.length sc, .bool won])
  chg : Chg (fun q => q = B) w1 W
def copK (vb vs : Value) (n m : Nat) : List Knd := [.box 0, .no, .val vb, .app n, .box 0, .no, .val vs, .app m, .no, .any, .no, .any]
theorem any_take' {α : Type} (q : α → Bool) (l : List α) {k : Nat} (h : k < l.length) (hp : (l.take k).any q = false) : (l.take (k + 1)).any q = q l[k] := by
  rw [List.take_succ_eq_append_getElem h, List.any_append, hp]; simp
set_option maxRecDepth 100000 in
set_option maxHeartbeats 8000000 in
theorem law_copied (start gin gout : Int) (beds : List Int) (ba : Option Addr) (bc : Nat) (scores : List Int) (sa : Option Addr) (sc : Nat) (won : Bool) (w : World) (hB : BedA w ba bc beds) (hS : BedA w sa sc scores) (hbl : beds.length ≤ 1000) (hsl : scores.length ≤ 1000) :
    Calls Try.prog 15 #[.agg #[.int .i64 start, .int .i64 gin, .int .i64 gout, .slice ba beds.length bc, .slice sa scores.length sc, .bool won]] w fun e w' => ∃ a c s d, e = .returned (.agg #[.int .i64 start, .int .i64 gin, .int .i64 gout, .slice a beds.length c, .slice s scores.length d, .bool won]) ∧ OwnD w' w.heap.size (.slice a beds.length c) beds ∧ OwnI w' w.heap.size (.slice s scores.length d) scores ∧ Ext w w' := by
  have HB := Lib.hid hB
  have HS := Lib.hid hS
  clear hB hS
  go_enter Try.func15, Try.ntmps15
  go_upto_region 1 with fail
  generalize hw1 : World.alloc (World.alloc w _) _ = w1
  obtain ⟨B, hBB⟩ : ∃ y, y = w.heap.size := ⟨_, rfl⟩
  rw [← hBB]
  have HX1 : Hid (Ext w w1) := Lib.hid (by rw [← hw1]; exact ((Ext.refl w).alloc _).alloc _)
  have K1 : Hid (Blk w1 B #[.int .i64 start, .int .i64 gin, .int .i64 gout, .slice ba beds.length bc, .slice sa scores.length sc, .bool won]) := Lib.hid (by rw [← hw1, hBB]; exact (Blk.new w _ _).alloc _)
  have K2 : Hid (Blk w1 (B + 1) #[.int .i64 0, .int .i64 0, .int .i64 0, .slice none 0 0, .slice none 0 0, .bool false]) := Lib.hid (by rw [← hw1]; exact Blk.at _ (by simp [hBB]))
  have HBB := Lib.hid hBB
  clear hw1 hBB
  have hlo : w1.heap.size ≤ w1.heap.size := Nat.le_refl _
  refine wp_region_lat (by kernel_rfl) (fun q _ => q = B ∨ w1.heap.size ≤ q) (fun k => (kAt (copK (.slice ba beds.length bc) (.slice sa scores.length sc) beds.length scores.length) k).loud) (fun k => (kAt (copK (.slice ba beds.length bc) (.slice sa scores.length sc) beds.length scores.length) k).ok)
    (CopG w1 B start gin gout beds ba bc scores sa sc won) (by kernel_rfl) (fun k hk => Nat.lt_of_lt_of_le (kAt_lt hk) (Nat.le_of_ble_eq_true rfl))
    (fun L L' u w' h hg => ⟨by rw [h 0 rfl, h 3 rfl, h 4 rfl, h 7 rfl]; exact hg.1, by rw [h 9 rfl, h 11 rfl]; exact hg.2, hg.3⟩) (fun L u a b h hx => ⟨h.1.ext hx, h.2.ext hx, h.3.ext' hx⟩) (fun k => (kAt (copK (.slice ba beds.length bc) (.slice sa scores.length sc) beds.length scores.length) k).wit) (fun k _ => (kAt _ k).wit_ok) ⟨(Frm.nones _ 2 w1).ext (Ext.refl w1).drew, K1.out.ext (Ext.refl w1).drew, ((Ext.refl w1).drew).chg _⟩ ?_
  intro T hT hne2 u hu
  obtain ⟨k0, u0⟩ : ∃ k, u 0 = .slice (some ⟨k, 0, none⟩) 0 0 := hu 0 rfl
  have u2 : u 2 = .slice ba beds.length bc := hu 2 rfl
  obtain ⟨a3, c3, u3⟩ : ∃ a c, u 3 = .slice a beds.length c := hu 3 rfl
  obtain ⟨k4, u4⟩ : ∃ k, u 4 = .slice (some ⟨k, 0, none⟩) 0 0 := hu 4 rfl
  have u6 : u 6 = .slice sa scores.length sc := hu 6 rfl
  obtain ⟨a7, c7, u7⟩ : ∃ a c, u 7 = .slice a scores.length c := hu 7 rfl
  clear hu
  have hB1 := K1.out.lt
  refine lx_loud (by rfl) (by kernel_rfl) ?_ (fun K hK => ?_)
  · intro L w3 hL hd hcl hC hs
    obtain ⟨x, rfl⟩ := hC
    have hzs := x.size
    have h9 := hcl.off hL 40 9 (by kernel_rfl)
    have h11 := hcl.off hL 40 11 (by kernel_rfl)
    have h3 := hcl.off hL 40 3 (by kernel_rfl)
    obtain ⟨hF, hb, hc⟩ := hs
    simp only [hL, h3, cond_false] at hF
    simp only [h9, h11, cond_false] at hb
    go_wp2
    have h2 := hF.set 0 rfl (((Ext.refl x.world).alloc (.cells #[] 99)).chg _) (r' := Res.own w1.heap.size 99 1 (.slice (some ⟨x.world.heap.size, 0, none⟩) 0 0) 0 []) (own_empty rfl (by omega)) (fun k hk => .inr (by cases hk; simp)) (by omega)
    have h5 := hb.ext ((Ext.refl x.world).alloc (.cells #[] 99))
    refine ⟨⟨_, rfl⟩, ⟨x.ext ((Ext.refl _).alloc _), rfl⟩, ⟨?_, ?_, hc.ext' ((Ext.refl _).alloc _)⟩⟩
    · first | (simp [upd, updv, hL, h3]; exact h2) | exact h2
    · first | (simp [upd, updv, h9, h11]; exact h5) | exact h5
  rw [u0]
  go_simp
  with_reducible refine hK _ ?_
  clear hK K
  refine lx_next 1 (by rfl) (by decide) ?_
  dsimp only [List.take, List.drop]
  repeat (go_big_quiet_step (fail))
  refine wpQuiet_nil ?_
  refine lx_loud (by rfl) (by kernel_rfl) ?_ (fun K hK => ?_)
  · intro L w3 hL hd hcl hC hs
    obtain ⟨x, rfl⟩ := hC
    have hzs := x.size
    have h9 := hcl.off hL 40 9 (by kernel_rfl)
    have h11 := hcl.off hL 40 11 (by kernel_rfl)
    obtain ⟨hF, hb, hc⟩ := hs
    simp only [h9, h11, cond_false] at hb
    have q0 := hb.cell 3 (v := .slice ba beds.length bc) rfl
    have ql := hb.lt
    go_wp2
    refine ⟨rfl, ⟨x, rfl⟩, ⟨hF, ?_, hc⟩⟩
    first | (simp [upd, updv, h9, h11]; exact hb) | exact hb
  rw [u2]
  go_simp
  with_reducible refine hK _ ?_
  clear hK K
  refine lx_loud (by rfl) (by kernel_rfl) ?_ (fun K hK => ?_)
  · intro L w3 hL hd hcl hC hs
    obtain ⟨x, rfl⟩ := hC
    have hzs := x.size
    have h0 := hd 0 (by kernel_rfl)
    have h9 := hcl.off hL 40 9 (by kernel_rfl)
    have h11 := hcl.off hL 40 11 (by kernel_rfl)
    obtain ⟨hF, hb, hc⟩ := hs
    simp only [hL, h0, cond_true, cond_false] at hF
    simp only [h9, h11, cond_false] at hb
    rw [u0] at hF
    have hcw : Chg (fun q => w1.heap.size ≤ q ∨ q = B) w1 x.world := hc.mono (fun _ _ h => .inr h)
    have hval := CellsAt.vals (k := .i64) (w := x.world) (a := ba) (xs := beds) (fun i hi => let ⟨b, o, e1, h1⟩ := HB.out.cells i hi; ⟨b, o, e1, hc.cell (HX1.out.cell h1) (by have h2 := lt_of_cell h1; have h3 := HBB.out; simp only at h2; show ¬ b = B; omega)⟩)
    refine wp_append_from rfl _ _ 25 99 _ 1 _ rfl info_bed (by kernel_rfl) rfl (by decide) w1.heap.size _ 0 [] rfl (hF.get 0 rfl) ba beds.length bc (beds.map (Value.int .i64)) rfl HB.out.nil (by simp) hval (ints_one _ _) (by omega) (by decide) (by omega) ?_
    intro v' w4 ho4 hC4 hn4
    rw [Nat.zero_add, List.nil_append] at ho4
    obtain ⟨av, ac, rfl⟩ := own_shape ho4
    have h2 := hF.set 0 rfl hC4 (r' := Res.own w1.heap.size 99 1 (.slice av beds.length ac) beds.length (beds.map (Value.int .i64))) ho4 hn4 (by omega)
    have h4 := hF.lt 0 rfl
    have h5 := hb.chg hC4 (fun e => by have := (h4 B e).1; omega)
    go_wp2
    refine ⟨⟨_, _, rfl⟩, ⟨x.chgd hC4 (fun k hk => .inl (h4 k hk).1), rfl⟩, ⟨?_, ?_, hc.far hC4 (fun k hk => .inr (h4 k hk).1)⟩⟩
    · first | (simp [upd, updv, hL, h0, u0]; exact h2) | exact h2
    · first | (simp [upd, updv, h9, h11]; exact h5) | exact h5
  rw [u3]
  go_simp
  with_reducible refine hK _ ?_
  clear hK K
  refine lx_loud (by rfl) (by kernel_rfl) ?_ (fun K hK => ?_)
  · intro L w3 hL hd hcl hC hs
    obtain ⟨x, rfl⟩ := hC
    have hzs := x.size
    have h9 := hcl.off hL 40 9 (by kernel_rfl)
    have h11 := hcl.off hL 40 11 (by kernel_rfl)
    have h7 := hcl.off hL 40 7 (by kernel_rfl)
    obtain ⟨hF, hb, hc⟩ := hs
    simp only [hL, h7, cond_false] at hF
    simp only [h9, h11, cond_false] at hb
    go_wp2
    have h2 := hF.set 1 rfl (((Ext.refl x.world).alloc (.cells #[] 3)).chg _) (r' := Res.own w1.heap.size 3 1 (.slice (some ⟨x.world.heap.size, 0, none⟩) 0 0) 0 []) (own_empty rfl (by omega)) (fun k hk => .inr (by cases hk; simp)) (by omega)
    have h5 := hb.ext ((Ext.refl x.world).alloc (.cells #[] 3))
    refine ⟨⟨_, rfl⟩, ⟨x.ext ((Ext.refl _).alloc _), rfl⟩, ⟨?_, ?_, hc.ext' ((Ext.refl _).alloc _)⟩⟩
    · first | (simp [upd, updv, hL, h7]; exact h2) | exact h2
    · first | (simp [upd, updv, h9, h11]; exact h5) | exact h5
  rw [u4]
  go_simp
  with_reducible refine hK _ ?_
  clear hK K
  refine lx_next 1 (by rfl) (by decide) ?_
  dsimp only [List.take, List.drop]
  repeat (go_big_quiet_step (fail))
  refine wpQuiet_nil ?_
  refine lx_loud (by rfl) (by kernel_rfl) ?_ (fun K hK => ?_)
  · intro L w3 hL hd hcl hC hs
    obtain ⟨x, rfl⟩ := hC
    have hzs := x.size
    have h9 := hcl.off hL 40 9 (by kernel_rfl)
    have h11 := hcl.off hL 40 11 (by kernel_rfl)
    obtain ⟨hF, hb, hc⟩ := hs
    simp only [h9, h11, cond_false] at hb
    have q0 := hb.cell 4 (v := .slice sa scores.length sc) rfl
    have ql := hb.lt
    go_wp2
    refine ⟨rfl, ⟨x, rfl⟩, ⟨hF, ?_, hc⟩⟩
    first | (simp [upd, updv, h9, h11]; exact hb) | exact hb
  rw [u6]
  go_simp
  with_reducible refine hK _ ?_
  clear hK K
  refine lx_loud (by rfl) (by kernel_rfl) ?_ (fun K hK => ?_)
  · intro L w3 hL hd hcl hC hs
    obtain ⟨x, rfl⟩ := hC
    have hzs := x.size
    have h4 := hd 4 (by kernel_rfl)
    have h9 := hcl.off hL 40 9 (by kernel_rfl)
    have h11 := hcl.off hL 40 11 (by kernel_rfl)
    obtain ⟨hF, hb, hc⟩ := hs
    simp only [hL, h4, cond_true, cond_false] at hF
    simp only [h9, h11, cond_false] at hb
    rw [u4] at hF
    have hcw : Chg (fun q => w1.heap.size ≤ q ∨ q = B) w1 x.world := hc.mono (fun _ _ h => .inr h)
    have hval := CellsAt.vals (k := .i64) (w := x.world) (a := sa) (xs := scores) (fun i hi => let ⟨b, o, e1, h1⟩ := HS.out.cells i hi; ⟨b, o, e1, hc.cell (HX1.out.cell h1) (by have h2 := lt_of_cell h1; have h3 := HBB.out; simp only at h2; show ¬ b = B; omega)⟩)
    refine wp_append_from rfl _ _ 26 3 _ 1 _ rfl info_int (by kernel_rfl) rfl (by decide) w1.heap.size _ 0 [] rfl (hF.get 1 rfl) sa scores.length sc (scores.map (Value.int .i64)) rfl HS.out.nil (by simp) hval (ints_one _ _) (by omega) (by decide) (by omega) ?_
    intro v' w4 ho4 hC4 hn4
    rw [Nat.zero_add, List.nil_append] at ho4
    obtain ⟨av, ac, rfl⟩ := own_shape ho4
    have h2 := hF.set 1 rfl hC4 (r' := Res.own w1.heap.size 3 1 (.slice av scores.length ac) scores.length (scores.map (Value.int .i64))) ho4 hn4 (by omega)
    have h4 := hF.lt 1 rfl
    have h5 := hb.chg hC4 (fun e => by have := (h4 B e).1; omega)
    go_wp2
    refine ⟨⟨_, _, rfl⟩, ⟨x.chgd hC4 (fun k hk => .inl (h4 k hk).1), rfl⟩, ⟨?_, ?_, hc.far hC4 (fun k hk => .inr (h4 k hk).1)⟩⟩
    · first | (simp [upd, updv, hL, u4]; exact h2) | exact h2
    · first | (simp [upd, updv, h9, h11]; exact h5) | exact h5
  rw [u7]
  go_simp
  with_reducible refine hK _ ?_
  clear hK K
  refine lx_next 1 (by rfl) (by decide) ?_
  dsimp only [List.take, List.drop]
  repeat (go_big_quiet_step (fail))
  refine wpQuiet_nil ?_
  refine lx_loud (by rfl) (by kernel_rfl) ?_ (fun K hK => ?_)
  · intro L w3 hL hd hcl hC hs
    obtain ⟨x, rfl⟩ := hC
    have hzs := x.size
    have h3 := hd 3 (by kernel_rfl)
    have h11 := hcl.off hL 40 11 (by kernel_rfl)
    obtain ⟨hF, hb, hc⟩ := hs
    simp only [hL, h11, cond_false] at hb
    have fj := hb.frozen 3
    have q0 := hb.cell 3 rfl
    have ql := hb.lt
    have h5 := hb.set 3 (u 3)
    rw [u3] at h5
    go_wp2
    refine ⟨trivial, ⟨x.setCell (.inr (.inl rfl)) _, rfl⟩, ⟨hF.low2 ((Chg.refl (fun q => q = B) x.world).setCell (.inr rfl) _) (fun k hk => by rw [show k = B from hk]; exact hB1), ?_, hc.trans ((Chg.refl (fun q => q = B) x.world).setCell (.inr rfl) _)⟩⟩
    first | (simp [upd, updv, hL, h11, u3, u7]; exact h5) | (simp [upd, updv, hL, h3, h11, u3, u7] at h5 ⊢; exact h5) | exact h5
  go_simp
  with_reducible refine hK _ ?_
  clear hK K
  refine lx_next 1 (by rfl) (by decide) ?_
  dsimp only [List.take, List.drop]
  repeat (go_big_quiet_step (fail))
  refine wpQuiet_nil ?_
  refine lx_loud (by rfl) (by kernel_rfl) ?_ (fun K hK => ?_)
  · intro L w3 hL hd hcl hC hs
    obtain ⟨x, rfl⟩ := hC
    have hzs := x.size
    have h9 := hd 9 (by kernel_rfl)
    obtain ⟨hF, hb, hc⟩ := hs
    simp only [hL, h9, cond_true, cond_false] at hb
    have fj := hb.frozen 4
    have q0 := hb.cell 4 rfl
    have ql := hb.lt
    have h5 := hb.set 4 (u 7)
    rw [u7] at h5
    go_wp2
    refine ⟨trivial, ⟨x.setCell (.inr (.inl rfl)) _, rfl⟩, ⟨hF.low2 ((Chg.refl (fun q => q = B) x.world).setCell (.inr rfl) _) (fun k hk => by rw [show k = B from hk]; exact hB1), ?_, hc.trans ((Chg.refl (fun q => q = B) x.world).setCell (.inr rfl) _)⟩⟩
    first | (simp [upd, updv, hL, h9, u3, u7]; exact h5) | (simp [upd, updv, hL, h9, u3, u7] at h5 ⊢; exact h5) | exact h5
  go_simp
  with_reducible refine hK _ ?_
  clear hK K
  refine lx_nil ?_
  intro y hs
  obtain ⟨hF, hb, hc⟩ := hs
  rw [u3, u7] at hb hF
  have HFx : Hid (Frm w1.heap.size [Res.own w1.heap.size 99 1 (.slice a3 beds.length c3) beds.length (beds.map (Value.int .i64)), Res.own w1.heap.size 3 1 (.slice a7 scores.length c7) scores.length (scores.map (Value.int .i64))] y.world) := Lib.hid hF
  have HBx : Hid (Blk y.world B #[.int .i64 start, .int .i64 gin, .int .i64 gout, .slice a3 beds.length c3, .slice a7 scores.length c7, .bool won]) := Lib.hid hb
  have HCx := Lib.hid hc
  clear hF hb hc hT hne2 u0 u2 u3 u4 u6 u7
  generalize y.world = w5 at *
  clear y T
  have HK2 := Lib.hid (K2.out.chg HCx.out (by omega))
  have b0 := HBx.out.cell 0 (v := .int .i64 start) rfl
  have b1 := HBx.out.cell 1 (v := .int .i64 gin) rfl
  have b2 := HBx.out.cell 2 (v := .int .i64 gout) rfl
  have b3 := HBx.out.cell 3 (v := .slice a3 beds.length c3) rfl
  have b4 := HBx.out.cell 4 (v := .slice a7 scores.length c7) rfl
  have b5 := HBx.out.cell 5 (v := .bool won) rfl
  have bl := HBx.out.lt
  have z0 := HK2.out.cell 0 (v := .int .i64 0) rfl
  have zf0 := HK2.out.frozen 0
  have z1 := HK2.out.cell 1 (v := .int .i64 0) rfl
  have zf1 := HK2.out.frozen 1
  have z2 := HK2.out.cell 2 (v := .int .i64 0) rfl
  have zf2 := HK2.out.frozen 2
  have z3 := HK2.out.cell 3 (v := .slice none 0 0) rfl
  have zf3 := HK2.out.frozen 3
  have z4 := HK2.out.cell 4 (v := .slice none 0 0) rfl
  have zf4 := HK2.out.frozen 4
  have z5 := HK2.out.cell 5 (v := .bool false) rfl
  have zf5 := HK2.out.frozen 5
  have zl := HK2.out.lt
  have HQ := Lib.hid (six_set HK2.out (.int .i64 start) (.int .i64 gin) (.int .i64 gout) (.slice a3 beds.length c3) (.slice a7 scores.length c7) (.bool won))
  have hqc := six_chg (fun q => q = B + 1) w5 (b := B + 1) rfl (.int .i64 start) (.int .i64 gin) (.int .i64 gout) (.slice a3 beds.length c3) (.slice a7 scores.length c7) (.bool won)
  have HXX : Hid (Ext w _) := Lib.hid (Chg.to_ext HX1.out ((HCx.out.mono (T := fun q => q = B ∨ q = B + 1) (fun _ _ h => .inl h)).trans (hqc.mono (fun _ _ h => .inr h))) (by intro i hi; have h := HBB.out; rcases hi with hi | hi <;> omega))
  have HO1 := Lib.hid (own_chg (HFx.out.get 0 rfl) hqc (fun q hq e => by have h1 := (HFx.out.lt 0 rfl q hq).1; have h2 := K2.out.lt; have h3 : q = B + 1 := e; omega))
  have HO2 := Lib.hid (own_chg (HFx.out.get 1 rfl) hqc (fun q hq e => by have h1 := (HFx.out.lt 1 rfl q hq).1; have h2 := K2.out.lt; have h3 : q = B + 1 := e; omega))
  have HNB : Hid (w.heap.size ≤ w1.heap.size) := Lib.hid HX1.out.size
  clear hqc
  go_wp2
  generalize hW : World.setCell _ _ _ = W
  rw [hW] at HXX HQ HO1 HO2
  have q0 := HQ.out.cell 0 (v := .int .i64 start) rfl
  have q1 := HQ.out.cell 1 (v := .int .i64 gin) rfl
  have q2 := HQ.out.cell 2 (v := .int .i64 gout) rfl
  have q3 := HQ.out.cell 3 (v := .slice a3 beds.length c3) rfl
  have q4 := HQ.out.cell 4 (v := .slice a7 scores.length c7) rfl
  have q5 := HQ.out.cell 5 (v := .bool won) rfl
  refine bodyPost_ret (v := .agg #[.int .i64 start, .int .i64 gin, .int .i64 gout, .slice a3 beds.length c3, .slice a7 scores.length c7, .bool won]) (by simp [results, Try.results15, go_sem, q0, q1, q2, q3, q4, q5]) rfl ⟨a3, c3, a7, c7, rfl, own_mono HO1.out HNB.out, own_mono HO2.out HNB.out, HXX.out⟩
end Go.Proofs.Ytmopadnkjlodnaa
