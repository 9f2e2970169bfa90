/-
  The statement TopHandicapLeg: walked.
-/
import Derived.Test.YtoddmaedianliaaHcv
import Derived.Deep.DeepCutAuto
namespace Go.Proofs.Ytoddmaedianliaa
open Go.RowKit Go.BigFrame
attribute [local go_sem] Later.cell Later.frozen Lat.cell Lat.frozen
theorem counts_at {w : World} {K : Nat} {a b f : Int} (h : Blk w K #[.int .i64 a, .int .i64 0, .int .i64 0, .int .i64 b, .int .i64 0, .int .i64 0]) : CntsAt w (some ⟨K, 0, none⟩) (hcR a b f).counts := fun i hi => by
  have h2 : i = 0 ∨ i = 1 := by simp [hcR] at hi; omega
  rcases h2 with rfl | rfl
  · exact ⟨K, 0, rfl, h.cell 0 rfl, h.cell 1 rfl, h.cell 2 rfl⟩
  · exact ⟨K, 0, rfl, h.cell 3 rfl, h.cell 4 rfl, h.cell 5 rfl⟩
/-- While a visit is put to the others. -/
structure PuG (B k : Nat) (p : Int) (bv : Value) (n : Nat) (v : Value) (l : List LV) (us : List Value) (old new : Array Value) (L : Nat → Bool) (u : Nat → Value) (w : World) : Prop where
  left : Blk w (B + 1) (bif L 14 then new else old)
  box : L 3 = true → L 4 = false → ∃ k, u 3 = .slice (some ⟨k, 0, none⟩) 1 1 ∧ w.heap[k]? = some (.cells #[.int .i64 p, bv] 41 (0, 0)) ∧ v.ownBlock ≠ some k
  pre : L 4 = false → HvO w B v l us
  beds : OwnBd w (B + 1 + 1) bv n
  post : L 4 = true → HvO w B (u 4) (l ++ [⟨p, ones n⟩]) (us ++ [bv])
structure PuR (m : Nat) (x : Int) (k : Nat) (v : Value) : Prop where
  box : k = 3 → ∃ j, v = .slice (some ⟨j, 0, none⟩) 1 1
  app : k = 4 → ∃ a c, v = .slice a (m + 1) c
  load : k = 7 → v = .int .i64 x
theorem PuG.mono {B k : Nat} {p : Int} {bv : Value} {n : Nat} {v : Value} {l : List LV} {us : List Value} {old new : Array Value} {L : Nat → Bool} {u : Nat → Value} {w w' : World} (h : PuG B k p bv n v l us old new L u w) (hx : Ext w w') : PuG B k p bv n v l us old new L u w' :=
  ⟨h.left.ext hx, fun e e2 => let ⟨j, h1, h2, h3⟩ := h.box e e2; ⟨j, h1, hx.heap h2, h3⟩, fun e => (h.pre e).ext hx, h.beds.ext hx, fun e => (h.post e).ext hx⟩
/-- Whether who throws second needs fewer visits. -/
def hcLess (f va vb : Int) : Bool := decide ((if f = 0 then vb else va) < (if f = 0 then va else vb))
/-- While the laws are copied and checked. -/
structure KcG (N : Nat) (cs : List Cnt) (L : Nat → Bool) (u : Nat → Value) (w : World) : Prop where
  o0 : L 0 = true → L 3 = false → w.ownsRow N 32 3 (u 0) 0 []
  o3 : L 3 = true → w.ownsRow N 32 3 (u 3) 2 (cs.flatMap Cnt.cells)
structure KcR (k : Nat) (v : Value) : Prop where
  one : k = 0 → ∃ k, v = .slice (some ⟨k, 0, none⟩) 0 0
  app : k = 3 → ∃ a c, v = .slice a 2 c
  err : k = 7 → v = .int .i64 0
theorem KcG.mono {N : Nat} {cs : List Cnt} {L : Nat → Bool} {u : Nat → Value} {w w' : World} (h : KcG N cs L u w) (hx : Ext w w') : KcG N cs L u w' :=
  ⟨fun e e2 => own_chg (h.o0 e e2) (hx.chg fun _ => False) (fun _ _ => id), fun e => own_chg (h.o3 e) (hx.chg fun _ => False) (fun _ _ => id)⟩
/-- Play at the loop's end. -/
theorem hc_Play {a b f x0 x1 p W : Int} {l : List LV} (K : Nat) (la : Option Addr) (lc : Nat) (w : World) (hI : HcI a b f l x0 x1 p) (hf : f = 0 ∨ f = 1) (ho : ¬ (0 < x0 ∧ 0 < x1)) (ha : 2 ≤ a ∧ a ≤ 1001) (hb : 2 ≤ b ∧ b ≤ 1001)
    (hW : (if hcLess f ((a + 2) / 3) ((b + 2) / 3) = true then 1 - f else f) = W) (hC : CntsAt w (some ⟨K, 0, none⟩) (hcR a b f).counts) (hV : VisAt w la l) (hfi : ∀ v ∈ l, v.fits) :
    Calls Try.prog 6 #[.agg #[.slice (some ⟨K, 0, none⟩) 2 2, .int .i64 f, .int .i64 0, .bool false], .slice la l.length lc] w fun e w' => ∃ (a0 a1 a2 : Option Addr) (n0 n1 n2 c0 c1 c2 wb wc : Nat) (nx rd : Int),
      e = .returned (.tuple #[.agg #[.slice a0 n0 c0, .slice a1 n1 c1, .slice a2 n2 c2, .int .i64 nx, .int .i64 rd, .bool true, .slice (some ⟨wb, 0, none⟩) 1 wc], .int .i64 0, .int .i64 0]) ∧ w'.cell? ⟨wb, 0, none⟩ = some (.int .i64 W) ∧ Ext w w' := by
  obtain ⟨g, hp, hov, hwi⟩ := hI.end hf ho
  have hlen := hI.length ha.2 hb.2
  have hne : newE (hcR a b f) l.length = 0 := by
    unfold newE
    rw [hcR_ok ha hb hf, if_neg (by simp), if_neg (by omega)]
  have hS : playS (hcR a b f) l = (g, 0, 0) := by
    unfold playS
    rw [if_neg (by rw [hne]; simp)]
    exact hp
  refine (leg_Play (hcR a b f) (some ⟨K, 0, none⟩) 2 l la lc w hC (by show 2 ≤ _; decide) hV hfi (by omega) _ hS).mono ?_
  rintro e w' ⟨v, rfl, ⟨lv, dv, iv, wv, rfl, o1, o2, o3, o4⟩, hx⟩
  have hwW : g.winners = [W] := by
    rw [hwi, ← hW]
    unfold hcLess
    simp only [decide_eq_true_eq]
  rw [hwW] at o4
  obtain ⟨a0, c0, rfl, -⟩ := o1.cells
  obtain ⟨a1, c1, rfl, -⟩ := o2.cells
  obtain ⟨a2, c2, rfl⟩ := OwnB.shape o3
  obtain ⟨a3, c3, rfl, h3⟩ := o4.cells
  obtain ⟨wb, o, rfl, hc⟩ := h3 0 (by simp)
  have ho0 : o = 0 := by
    obtain ⟨_, ⟨e, _⟩ | ⟨g', cap, cur, e, _⟩⟩ := o4
    · cases e
    · cases e; rfl
  subst ho0
  rw [hov]
  exact ⟨a0, a1, a2, _, _, _, c0, c1, c2, wb, c3, _, _, rfl, hc, hx⟩
set_option maxRecDepth 100000 in
set_option pp.deepTerms true in
set_option pp.maxSteps 200000 in
set_option maxHeartbeats 16000000 in
theorem law_TopHandicapLeg (h0 h1 h2 g0 g1 : Int) (first : Bool) (w : World) (b0 : 0 ≤ h0 ∧ h0 ≤ 255) (b1 : 0 ≤ h1 ∧ h1 ≤ 255) (b2 : 0 ≤ h2 ∧ h2 ≤ 255) (b3 : 0 ≤ g0 ∧ g0 ≤ 255) (b4 : 0 ≤ g1 ∧ g1 ≤ 255) :
    Calls Try.prog 3 #[.agg #[.int .u8 h0, .int .u8 h1, .int .u8 h2], .agg #[.int .u8 g0, .int .u8 g1], .bool first] w fun e w' => e = .returned (.bool true) ∧ Ext w w' := by
  obtain ⟨st, hst⟩ : ∃ st, 2 + h0 % 150 = st := ⟨_, rfl⟩
  obtain ⟨sp, hsp⟩ : ∃ sp, h1 % 9 = sp := ⟨_, rfl⟩
  obtain ⟨le, hle⟩ : ∃ le, 2 + h2 % (st - 1) = le := ⟨_, rfl⟩
  obtain ⟨x, hx⟩ : ∃ x, g0 % 100 = x := ⟨_, rfl⟩
  obtain ⟨y, hy⟩ : ∃ y, g1 % 100 = y := ⟨_, rfl⟩
  have i1 : 2 ≤ st ∧ st ≤ 151 := by omega
  have i2 : 0 ≤ sp ∧ sp ≤ 8 := by omega
  have i3 : 2 ≤ le ∧ le ≤ st := by
    have := Int.emod_nonneg h2 (show st - 1 ≠ 0 by omega)
    have := Int.emod_lt_of_pos h2 (show 0 < st - 1 by omega)
    omega
  have i4 : 0 ≤ x ∧ x ≤ 99 := by omega
  have i5 : 0 ≤ y ∧ y ≤ 99 := by omega
  have k1 : Int.tmod h0 150 = st - 2 := by rw [Int.tmod_eq_emod_of_nonneg b0.1]; omega
  have k2 : Int.tmod h1 9 = sp := by rw [Int.tmod_eq_emod_of_nonneg b1.1]; omega
  have k3 : Int.tmod h2 (st - 1) = le - 2 := by rw [Int.tmod_eq_emod_of_nonneg b2.1]; omega
  have k4 : Int.tmod g0 100 = x := by rw [Int.tmod_eq_emod_of_nonneg b3.1]; omega
  have k5 : Int.tmod g1 100 = y := by rw [Int.tmod_eq_emod_of_nonneg b4.1]; omega
  have m1 : st - 1 ≠ 0 := by omega
  have n1 : 2 + (st - 2) = st := by omega
  have n3 : 2 + (le - 2) = le := by omega
  obtain ⟨d, hd⟩ : ∃ d, x - y = d := ⟨_, rfl⟩
  have hdb : -99 ≤ d ∧ d ≤ 99 := by omega
  obtain ⟨a, ha⟩ : ∃ a, max le (st - sp * max 0 (-d)) = a := ⟨_, rfl⟩
  obtain ⟨b, hb⟩ : ∃ b, max le (st - sp * max 0 d) = b := ⟨_, rfl⟩
  have q1 : 0 ≤ sp * max 0 (-d) := Int.mul_nonneg i2.1 (by omega)
  have q2 : 0 ≤ sp * max 0 d := Int.mul_nonneg i2.1 (by omega)
  have ba : 2 ≤ a ∧ a ≤ 151 := by omega
  have bb : 2 ≤ b ∧ b ≤ 151 := by omega
  have hz : sp = 0 → a = b := by
    intro h
    rw [← ha, ← hb, h]
    simp
  have HZ := Lib.hid hz
  have hS := fun W bx cy cx cy' => team_Starts st sp le x y bx cy W (by omega) (by omega) i3 i4 i5 d hd cx cy'
  rw [ha, hb] at hS
  have HS := Lib.hid hS
  clear hst hsp hle hx hy ha hb q1 q2 hz hS hd
  go_enter Try.func3, Try.ntmps3
  go_wp2_with fail
  refine (HS.out _ _ _ (by simp [go_sem]) (by simp [go_sem])).mono ?_
  rintro e w1 ⟨rfl, hx1⟩
  have hA1 : Blk w1 (w.heap.size + 1 + 1) #[.int .i64 st, .int .i64 sp, .int .i64 le] := (((Blk.at _ (by simp)).alloc (.cells #[.int .i64 x] 3)).alloc (.cells #[.int .i64 y] 3)).ext hx1
  have hE1 := (((((Ext.refl w).alloc (.cells #[.int .u8 h0, .int .u8 h1, .int .u8 h2] 22)).alloc (.cells #[.int .u8 g0, .int .u8 g1] 23)).alloc (.cells #[.int .i64 st, .int .i64 sp, .int .i64 le] 25)).alloc (.cells #[.int .i64 x] 3)).alloc (.cells #[.int .i64 y] 3) |>.trans hx1
  have HA1 := Lib.hid hA1
  have hal := hA1.lt
  clear hx1 hA1 HS k1 k2 k3 k4 k5 n1 n3 m1 b0 b1 b2 b3 b4 i4 i5 hdb
  go_upto_if 64 with fail
  have hR2 : Blk ((w1.alloc (.cells #[.int .i64 a, .int .i64 0, .int .i64 0, .int .i64 b, .int .i64 0, .int .i64 0] 32)).alloc (.cells #[.slice (some ⟨w1.heap.size, 0, none⟩) 2 2, .int .i64 0, .int .i64 0, .bool false] 35)) (w1.heap.size + 1) #[.slice (some ⟨w1.heap.size, 0, none⟩) 2 2, .int .i64 0, .int .i64 0, .bool false] := Blk.at _ (by simp)
  have hC2 : Blk ((w1.alloc (.cells #[.int .i64 a, .int .i64 0, .int .i64 0, .int .i64 b, .int .i64 0, .int .i64 0] 32)).alloc (.cells #[.slice (some ⟨w1.heap.size, 0, none⟩) 2 2, .int .i64 0, .int .i64 0, .bool false] 35)) w1.heap.size #[.int .i64 a, .int .i64 0, .int .i64 0, .int .i64 b, .int .i64 0, .int .i64 0] := (Blk.new w1 _ _).alloc _
  have hx2 := ((Ext.refl w1).alloc (.cells #[.int .i64 a, .int .i64 0, .int .i64 0, .int .i64 b, .int .i64 0, .int .i64 0] 32)).alloc (.cells #[.slice (some ⟨w1.heap.size, 0, none⟩) 2 2, .int .i64 0, .int .i64 0, .bool false] 35)
  generalize hW2 : World.alloc _ (.cells #[.slice (some ⟨w1.heap.size, 0, none⟩) 2 2, .int .i64 0, .int .i64 0, .bool false] 35) = w2 at *
  obtain ⟨K, hK⟩ : ∃ K, w1.heap.size = K := ⟨_, rfl⟩
  rw [hK] at hR2 hC2
  have hKw : w.heap.size + 1 + 1 < K := by omega
  have hE2 := hE1.trans hx2
  have HA2 := Lib.hid (HA1.out.ext hx2)
  have HR2 := Lib.hid hR2
  have HC2 := Lib.hid hC2
  have hrl := hR2.lt
  have hR3 := hR2.set 1 (.int .i64 1)
  have hset := Chg.setCell (S := (· = K + 1)) (Chg.refl _ w2) (p := ⟨K + 1, 1, none⟩) (.inr rfl) (.int .i64 1)
  have hC3 := hC2.chg hset (by omega)
  have hA3 := HA2.out.chg hset (by omega)
  have hE3 := Chg.to_ext hE2 hset (by rintro j rfl; omega)
  have HR3 := Lib.hid hR3
  have HC3 := Lib.hid hC3
  have HA3 := Lib.hid hA3
  have HE3 := Lib.hid hE3
  have HE2 := Lib.hid hE2
  have f1 := hR2.frozen 1
  have p1 := hR2.cell 1 (v := .int .i64 0) rfl
  rw [hK]
  clear hW2 hR2 hC2 hx2 hE1 HA1 hR3 hset hC3 hA3 hE3 hE2 hal hK
  go_cut [] (fun wx => ∃ f : Int, (f = 0 ∨ f = 1) ∧ Blk wx (K + 1) #[.slice (some ⟨K, 0, none⟩) 2 2, .int .i64 f, .int .i64 0, .bool false] ∧ Blk wx K #[.int .i64 a, .int .i64 0, .int .i64 0, .int .i64 b, .int .i64 0, .int .i64 0] ∧ Blk wx (w.heap.size + 1 + 1) #[.int .i64 st, .int .i64 sp, .int .i64 le] ∧ Ext w wx)
  case first =>
    cases first
    · go_wp2
      go_meet
      exact ⟨0, .inl rfl, HR2.out, HC2.out, HA2.out, HE2.out⟩
    · go_wp2
      go_meet
      exact ⟨1, .inr rfl, HR3.out, HC3.out, HA3.out, HE3.out⟩
  case rest =>
    obtain ⟨f, hf, hR, hC, hA, hE⟩ := hcut
    have HR := Lib.hid hR
    have HC := Lib.hid hC
    have HA := Lib.hid hA
    have HE := Lib.hid hE
    have hok : (hcR a b f).err = 0 := by rw [Rul.err_eq, if_pos (hcR_ok (by omega) (by omega) hf)]
    have HOK := Lib.hid hok
    have r0 := hR.cell 0 (v := .slice (some ⟨K, 0, none⟩) 2 2) rfl
    have r1 := hR.cell 1 (v := .int .i64 f) rfl
    have hrl2 := hR.lt
    clear hR hC hA hE hok HR2 HC2 HA2 HR3 HC3 HA3 HE3 HE2 f1 p1 hrl
    go_upto_region 9 with fail
    refine wp_region_lat (by kernel_rfl) (fun _ _ => False) (fun k => k == 0 || (k == 3 || k == 7)) KcR (KcG wc.heap.size (hcR a b f).counts)
      (by kernel_rfl) (fun k hk => by simp only [Bool.or_eq_true, beq_iff_eq] at hk; show k < 9; omega)
      (fun L L' u w hh hg => ⟨by rw [hh 0 rfl, hh 3 rfl]; exact hg.o0, by rw [hh 3 rfl]; exact hg.o3⟩)
      (fun L u w w' hg hx => hg.mono hx)
      (fun j => if j = 0 then .slice (some ⟨0, 0, none⟩) 0 0 else if j = 3 then .slice none 2 0 else .int .i64 0)
      (fun j hj => ⟨fun h => by subst h; exact ⟨0, rfl⟩, fun h => by subst h; exact ⟨none, 0, rfl⟩, fun h => by subst h; rfl⟩)
      ⟨fun h => (by cases h), fun h => (by cases h)⟩ ?_
    intro T hT hne u hu
    obtain ⟨k0, u0⟩ := (hu 0 rfl).one rfl
    obtain ⟨a3, c3, u3⟩ := (hu 3 rfl).app rfl
    have u7 := (hu 7 rfl).err rfl
    refine lx_loud (by rfl) (by kernel_rfl) ?_ (fun Q hQ => ?_)
    · intro L w3 hL hd hcl hC hg
      obtain ⟨z, rfl⟩ := hC
      have h3 := hcl.off hL 30 3 (by kernel_rfl)
      have hx9 := (Ext.refl z.world).alloc (.cells #[] 32)
      have hm := hg.mono hx9
      have hzs : wc.heap.size ≤ z.world.heap.size := z.size
      go_wp2
      exact ⟨⟨fun _ => ⟨_, rfl⟩, fun h => absurd h (by decide), fun h => absurd h (by decide)⟩, ⟨z.ext hx9, rfl⟩, ⟨fun _ _ => own_empty rfl hzs, hm.o3⟩⟩
    rw [u0]
    go_simp
    with_reducible refine hQ _ ?_
    clear hQ Q
    refine lx_next 2 (by rfl) (by decide) ?_
    dsimp only [List.take, List.drop]
    repeat (go_big_quiet_step (fail))
    refine wpQuiet_nil ?_
    refine lx_loud (by rfl) (by kernel_rfl) ?_ (fun Q hQ => ?_)
    · intro L w3 hL hd hcl hC hg
      obtain ⟨z, rfl⟩ := hC
      have hzx : Ext wc z.world := Chg.to_ext (Ext.refl wc) z.chg (by rintro i ⟨o, h⟩; exact h.elim)
      have ho := hg.o0 (hd 0 (by kernel_rfl)) hL
      rw [u0] at ho
      have hzs : wc.heap.size ≤ z.world.heap.size := z.size
      go_wp2_with (at_builtin; refine wp_append_vals rfl _ _ 33 32 _ 3 24 rfl info_cnt (by kernel_rfl) rfl (by decide) wc.heap.size _ 0 [] rfl ho (some ⟨K, 0, none⟩) 2 2 ((hcR a b f).counts.flatMap Cnt.cells) rfl (fun h => by cases h) rfl (CntsAt.vals ((counts_at HC.out).ext hzx)) (cnt_one _) (by omega) (by omega) hzs ?_)
      intro v' w4 ho4 hg4
      have ho5 : w4.ownsRow wc.heap.size 32 3 v' 2 ((hcR a b f).counts.flatMap Cnt.cells) := by simpa using ho4
      have hC4 := grown_chg hg4
      have hob := own_lt ho
      obtain ⟨qa, qc, hq, -⟩ := own_cnts (l := (hcR a b f).counts) ho5
      obtain rfl : v' = .slice qa 2 qc := hq
      have HO5 := Lib.hid ho5
      clear ho4 hg4 ho5
      go_wp2
      exact ⟨⟨fun h => absurd h (by decide), fun _ => ⟨qa, qc, rfl⟩, fun h => absurd h (by decide)⟩, ⟨z.chgd hC4 (fun j e => .inl (by have := (hob j e).1; omega)), rfl⟩, ⟨fun _ h => (by simp [upd] at h), fun _ => HO5.out⟩⟩
    rw [u3]
    go_simp
    with_reducible refine hQ _ ?_
    clear hQ Q
    refine lx_next 3 (by rfl) (by decide) ?_
    dsimp only [List.take, List.drop]
    repeat (go_big_quiet_step (fail))
    refine wpQuiet_nil ?_
    refine lx_loud (by rfl) (by kernel_rfl) ?_ (fun Q hQ => ?_)
    · intro L w3 hL hd hcl hC hg
      obtain ⟨z, rfl⟩ := hC
      have ho := hg.o3 (hd 3 (by kernel_rfl))
      rw [u3] at ho
      obtain ⟨qa, qc, hq, hcq⟩ := own_cnts (l := (hcR a b f).counts) ho
      obtain ⟨rfl, rfl⟩ : a3 = qa ∧ c3 = qc := by injection hq with e1 _ e3; exact ⟨e1, e3⟩
      have hCk := leg_Check (hcR a b f) a3 c3 z.world hcq (by show 2 ≤ _; decide)
      rw [HOK.out] at hCk
      have HCk := Lib.hid hCk
      have HGg := Lib.hid hg
      clear hCk ho hq hcq hg
      go_wp2_with fail
      refine HCk.out.mono ?_
      rintro e w4 ⟨rfl, hx4⟩
      have hm := HGg.out.mono hx4
      go_wp2
      exact ⟨⟨fun h => absurd h (by decide), fun h => absurd h (by decide), fun _ => rfl⟩, ⟨z.ext hx4, rfl⟩, ⟨hm.o0, hm.o3⟩⟩
    rw [u7]
    go_simp
    with_reducible refine hQ _ ?_
    clear hQ Q
    refine lx_next 1 (by rfl) (by decide) ?_
    dsimp only [List.take, List.drop]
    repeat (go_big_quiet_step (fail))
    refine wpQuiet_nil ?_
    refine lx_nil ?_
    intro z hG
    have hX : Ext wc z.world := Chg.to_ext (Ext.refl wc) z.chg (by rintro i ⟨o, h⟩; exact h.elim)
    have hE4 := HE.out.trans hX
    have HR4 := Lib.hid (HR.out.ext hX)
    have HC4 := Lib.hid (HC.out.ext hX)
    have HA4 := Lib.hid (HA.out.ext hX)
    clear hG hT hne hu u0 u3 u7 HR HC HA HE HOK r0 r1 hrl2
    generalize z.world = w4 at *
    clear z hX
    obtain ⟨va, hva⟩ : ∃ va, (a + 2) / 3 = va := ⟨_, rfl⟩
    obtain ⟨vb, hvb⟩ : ∃ vb, (b + 2) / 3 = vb := ⟨_, rfl⟩
    have k1 : Int.tdiv (a + 3 - 1) 3 = va := by rw [Int.tdiv_eq_ediv_of_nonneg (by omega)]; omega
    have k2 : Int.tdiv (b + 3 - 1) 3 = vb := by rw [Int.tdiv_eq_ediv_of_nonneg (by omega)]; omega
    have k3 : Int.tdiv (a + 2) 3 = va := by rw [Int.tdiv_eq_ediv_of_nonneg (by omega)]; omega
    have k4 : Int.tdiv (b + 2) 3 = vb := by rw [Int.tdiv_eq_ediv_of_nonneg (by omega)]; omega
    have hvab : 0 ≤ va ∧ va ≤ 60 := by omega
    have hvbb : 0 ≤ vb ∧ vb ≤ 60 := by omega
    have HVA := Lib.hid hva
    have HVB := Lib.hid hvb
    have r1 := HR4.out.cell 1 (v := .int .i64 f) rfl
    have hrl := HR4.out.lt
    clear hva hvb
    go_upto_region 13 with fail
    have hV5 : Blk (w4.alloc (.cells #[.int .i64 va, .int .i64 vb] 37)) w4.heap.size #[.int .i64 va, .int .i64 vb] := Blk.new _ _ _
    have hx5 := (Ext.refl w4).alloc (.cells #[.int .i64 va, .int .i64 vb] 37)
    generalize hW5 : World.alloc w4 _ = w5 at *
    obtain ⟨K5, hK5⟩ : ∃ K5, w4.heap.size = K5 := ⟨_, rfl⟩
    rw [hK5] at hV5
    rw [hK5]
    have hE5 := hE4.trans hx5
    have HV5 := Lib.hid hV5
    have HR5 := Lib.hid (HR4.out.ext hx5)
    have HC5 := Lib.hid (HC4.out.ext hx5)
    have HA5 := Lib.hid (HA4.out.ext hx5)
    have hvl := hV5.lt
    have v0 := hV5.cell 0 (v := .int .i64 va) rfl
    have v1 := hV5.cell 1 (v := .int .i64 vb) rfl
    replace r1 := hx5.cell r1
    have hrl5 := HR5.out.lt
    clear hW5 hV5 hx5 hrl HR4 HC4 HA4 k1 k2 k3 k4 hE4 hK5
    go_cut [95] (fun s wx => s = .bool (hcLess f va vb) ∧ Ext w5 wx)
    case first =>
      rcases hf with rfl | rfl
      · go_wp2
        refine wp_region_later (by kernel_rfl) (by kernel_rfl) ?_
        repeat (go_big_quiet_step (fail))
        refine wpQuiet_nil ?_
        rintro _ ⟨⟨w6, hx6⟩, rfl⟩
        go_wp2
        go_meet
        exact ⟨rfl, hx6⟩
      · go_wp2
        refine wp_region_later (by kernel_rfl) (by kernel_rfl) ?_
        repeat (go_big_quiet_step (fail))
        refine wpQuiet_nil ?_
        rintro _ ⟨⟨w6, hx6⟩, rfl⟩
        go_wp2
        go_meet
        exact ⟨rfl, hx6⟩
    case rest =>
      obtain ⟨rfl, hx6⟩ := hcut
      have hE6 := hE5.trans hx6
      have HR6 := Lib.hid (HR5.out.ext hx6)
      have HC6 := Lib.hid (HC5.out.ext hx6)
      have HA6 := Lib.hid (HA5.out.ext hx6)
      clear v0 v1 r1 hvl HV5 HR5 HC5 HA5 hx6 hE5 hrl5
      have r1 := HR6.out.cell 1 (v := .int .i64 f) rfl
      have hrl6 := HR6.out.lt
      obtain ⟨W, hWW⟩ : ∃ W, (if hcLess f va vb = true then 1 - f else f) = W := ⟨_, rfl⟩
      have HWW := Lib.hid hWW
      have hfb : 0 ≤ f ∧ f ≤ 1 := by omega
      clear hWW
      go_upto_if 95 with fail
      go_cut [13] (fun s wx => s = .int .i64 W ∧ wx = wc)
      case first =>
        cases hl : hcLess f va vb
        · go_wp2
          go_meet
          exact ⟨by rw [← HWW.out, hl]; rfl, rfl⟩
        · go_wp2
          go_meet
          exact ⟨by rw [← HWW.out, hl]; rfl, rfl⟩
      case rest =>
        obtain ⟨rfl, rfl⟩ := hcut
        /- LOOP -/
        go_upto_region 16 with fail
        have hL0 : Blk ((wc.alloc (.cells #[] 41)).alloc (.cells #[.int .i64 a, .int .i64 b] 37)) (wc.heap.size + 1) #[.int .i64 a, .int .i64 b] := Blk.at _ (by simp)
        have hV0 : HvO ((wc.alloc (.cells #[] 41)).alloc (.cells #[.int .i64 a, .int .i64 b] 37)) wc.heap.size (.slice (some ⟨wc.heap.size, 0, none⟩) 0 0) [] [] := ⟨(VisO.nil (w := wc) (base := wc.heap.size) (Nat.le_refl _)).ext ((Ext.refl _).alloc (.cells #[.int .i64 a, .int .i64 b] 37)), fun j e => (by have := own_blk e; omega), fun u hu => (by cases hu), fun u hu => (by cases hu)⟩
        have hx7 := ((Ext.refl wc).alloc (.cells #[] 41)).alloc (.cells #[.int .i64 a, .int .i64 b] 37)
        have hE7 := hE6.trans hx7
        have HL0 := Lib.hid hL0
        have HV0 := Lib.hid hV0
        have HR7 := Lib.hid (HR6.out.ext hx7)
        have HC7 := Lib.hid (HC6.out.ext hx7)
        have HA7 := Lib.hid (HA6.out.ext hx7)
        replace r1 := hx7.cell r1
        have hrl7 := HR7.out.lt
        have hKB : K + 1 < wc.heap.size := hrl6
        generalize hW7 : World.alloc _ (.cells #[.int .i64 a, .int .i64 b] 37) = w7 at *
        generalize hB : wc.heap.size = B at *
        clear hL0 hV0 hx7 hE6 HR6 HC6 HA6 hrl6 hW7 hB
        go_wp2
        go_loopw [14, 16] (fun v pv wr => ∃ (l : List LV) (us : List Value) (x0 x1 p : Int), pv = .int .i64 p ∧ HcI a b f l x0 x1 p ∧ HvO wr B v l us ∧ Blk wr (B + 1) #[.int .i64 x0, .int .i64 x1] ∧ (Blk wr (K + 1) #[.slice (some ⟨K, 0, none⟩) 2 2, .int .i64 f, .int .i64 0, .bool false] ∧ Blk wr K #[.int .i64 a, .int .i64 0, .int .i64 0, .int .i64 b, .int .i64 0, .int .i64 0] ∧ Blk wr (w.heap.size + 1 + 1) #[.int .i64 st, .int .i64 sp, .int .i64 le]) ∧ Ext w wr) (fun v _ _ => 1000 - lenOf v)
        case atStart => exact ⟨[], [], a, b, f, rfl, HcI.start (by omega) (by omega), HV0.out, HL0.out, ⟨HR7.out, HC7.out, HA7.out⟩, hE7⟩
        case round =>
          obtain ⟨l, us, x0, x1, p, rfl, hI, hV, hL, ⟨hR, hC, hA⟩, hx8⟩ := hrel
          have hlen := hI.length (by omega) (by omega)
          obtain ⟨av, cv, rfl, hvis⟩ := hV.vis.vis
          have HI := Lib.hid hI
          have HV := Lib.hid hV
          have HL := Lib.hid hL
          have HR := Lib.hid hR
          have HC := Lib.hid hC
          have HA := Lib.hid hA
          have l0 := hL.cell 0 (v := .int .i64 x0) rfl
          have l1 := hL.cell 1 (v := .int .i64 x1) rfl
          have hll := hL.lt
          have hxb : 0 ≤ x0 ∧ x0 ≤ 151 ∧ 0 ≤ x1 ∧ x1 ≤ 151 := by obtain ⟨_, n0, n1, e0, e1, b0, b1, c0, c1, _⟩ := hI; omega
          have hpf : p = 0 ∨ p = 1 := by obtain ⟨_, n0, n1, e0, e1, b0, b1, c0, c1, _, hn, _⟩ := hI; omega
          clear HL0 HV0 HR7 HC7 HA7 hE7 r1 hrl7 hI hV hL hR hC hA
          by_cases h0 : 0 < x0
          · by_cases h1 : 0 < x1
            · rcases hpf with rfl | rfl
              · obtain ⟨n, hn⟩ : ∃ n : Nat, min 3 x0 = n := ⟨(min 3 x0).toNat, by omega⟩
                have hn3 : 1 ≤ n ∧ n ≤ 3 := by omega
                have hSt := HI.out.step0 hf h0 h1
                rw [hn] at hSt
                rw [Int.toNat_natCast] at hSt
                have HSt := Lib.hid hSt
                have hmin : (if x0 < 3 then x0 else 3) = n := by omega
                clear hSt
                go_upto_region 20 with fail
                have hM : Blk (wr.alloc (.cells #[.int .i64 0, .slice none 0 0] 41)) wr.heap.size #[.int .i64 0, .slice none 0 0] := Blk.new _ _ _
                have hxm := (Ext.refl wr).alloc (.cells #[.int .i64 0, .slice none 0 0] 41)
                generalize hWm : World.alloc wr _ = wm at *
                obtain ⟨D, hD⟩ : ∃ D, wr.heap.size = D := ⟨_, rfl⟩
                rw [hD] at hM
                rw [hD]
                have hDw : wm.heap.size = D + 1 := by rw [← hWm, ← hD]; simp
                have hBD : B + 1 < D := by omega
                have HM := Lib.hid hM
                have HXM := Lib.hid hxm
                clear hWm hM hxm l0 l1
                obtain ⟨w0, rfl⟩ : ∃ x, x = wr := ⟨_, rfl⟩
                go_wp2
                go_loopw [18] (fun kv wq => ∃ (k : Nat) (bv : Value), k ≤ n ∧ kv = .int .i64 k ∧ Blk wq D #[.int .i64 0, bv] ∧ OwnBd wq (D + 1) bv k ∧ Ext w0 wq) (fun kv _ => n - (intOf kv).toNat)
                case atStart => exact ⟨0, _, Nat.zero_le _, rfl, HM.out, World.ownsRow_nil _ _ _ _, HXM.out⟩
                case round =>
                  obtain ⟨k, bv, hk, rfl, hM, hO, hxq⟩ := hrel
                  obtain ⟨ba, bc, rfl⟩ := hO.shape
                  have HM2 := Lib.hid hM
                  have HO2 := Lib.hid hO
                  have m1 := hM.cell 1 (v := .slice ba k bc) rfl
                  have fm1 := hM.frozen 1
                  have hml := hM.lt
                  have hL2 := HL.out.ext hxq
                  have l0 := hL2.cell 0 (v := .int .i64 x0) rfl
                  have l1 := hL2.cell 1 (v := .int .i64 x1) rfl
                  have hll2 := hL2.lt
                  have HXQ := Lib.hid hxq
                  have HL2 := Lib.hid hL2
                  clear hM hO hxq hL2 HM HXM
                  by_cases hlt : k < n
                  · have hO0 := HO2.out.ext ((Ext.refl wr).alloc (.cells #[.int .i64 101] 42))
                    have hbB : ∀ j, (Value.slice ba k bc).ownBlock = some j → D + 1 ≤ j := fun j e => (own_lt HO2.out j e).1
                    have HO0 := Lib.hid hO0
                    have HbB := Lib.hid hbB
                    clear hO0 hbB
                    go_wp2_with (at_builtin; refine wp_append_vals rfl _ _ 39 42 _ 1 8 rfl info_bed (by kernel_rfl) rfl (by decide) (D + 1) _ k ((ones k).map (Value.int .i64)) rfl HO0.out (some ⟨wr.heap.size, 0, none⟩) 1 1 [.int .i64 101] rfl (fun h => by cases h) rfl (fun ad h j u hj => by cases h; match j, hj with | 0, hj => (simp at hj; subst hj; exact (Blk.new wr #[.int .i64 101] _).cell 0 rfl)) (fun u hu => by simp at hu; subst hu; rfl) (by omega) (by omega) (by simp [go_sem]; omega) ?_)
                    intro v4 w4 ho4 hg4
                    have hC4 := Chg.trans (((Ext.refl wr).alloc (.cells #[.int .i64 101] 42)).chg _) (grown_chg hg4)
                    have hO4 : OwnBd w4 (D + 1) v4 (k + 1) := by unfold OwnBd; rw [ones_succ, List.map_append]; exact ho4
                    obtain ⟨q1, q2, rfl⟩ := hO4.shape
                    have hM4 := HM2.out.chg hC4 (fun e => by have := HbB.out _ e; omega)
                    have hL4 := HL2.out.chg hC4 (fun e => by have := HbB.out _ e; omega)
                    have hE4 := Chg.to_ext HXQ.out hC4 (fun j e => by have := HbB.out _ e; omega)
                    have hm4 := hM4.lt
                    have fm4 := hM4.frozen 1
                    have cm4 := hM4.cell 1 (v := .slice ba k bc) rfl
                    have hM5 := hM4.set 1 (.slice q1 (k + 1) q2)
                    have hset := Chg.setCell (S := (· = D)) (Chg.refl _ w4) (p := ⟨D, 1, none⟩) (.inr rfl) (.slice q1 (k + 1) q2)
                    have hO5 := hO4.chg hset (fun j e h => by have := (own_lt hO4 j e).1; omega)
                    have hE5 := Chg.to_ext hE4 hset (by rintro j rfl; omega)
                    have HM5 := Lib.hid hM5
                    have HO5 := Lib.hid hO5
                    have HE5 := Lib.hid hE5
                    clear ho4 hg4 hC4 hO4 hM4 hL4 hE4 hM5 hset hO5 hE5
                    go_wp2
                    go_roundw
                    case rel => exact ⟨k + 1, _, by omega, by go_num, HM5.out, HO5.out, HE5.out⟩
                    case measure => simp [intOf]; omega
                  · obtain rfl : k = n := by omega
                    have hbB : ∀ j, (Value.slice ba k bc).ownBlock = some j → D + 1 ≤ j := fun j e => (own_lt HO2.out j e).1
                    have hvB : ∀ j, (Value.slice av l.length cv).ownBlock = some j → B ≤ j ∧ j < D := fun j e => by have := own_lt HV.out.vis.outer j e; omega
                    have hvne := HV.out.ne
                    obtain ⟨vb, hvb⟩ : ∃ vb, (Value.slice av l.length cv).ownBlock = vb := ⟨_, rfl⟩
                    rw [hvb] at hvB hvne
                    have hX1 : ¬ D = B + 1 := by omega
                    have hX2 : ¬ vb = some D := fun e => by have := hvB _ e; omega
                    have m0 := HM2.out.cell 0 (v := .int .i64 0) rfl
                    obtain ⟨N, hN⟩ : ∃ N, wr.heap.size = N := ⟨_, rfl⟩
                    have HN := Lib.hid hN
                    have HVB := Lib.hid hvb
                    have HvB := Lib.hid hvB
                    have Hvne := Lib.hid hvne
                    have HbB := Lib.hid hbB
                    clear hN hvb hvB hvne hbB
                    go_upto_region 24 with fail
                    clear l0 l1
                    refine wp_region_lat (by kernel_rfl) (fun b2 _ => b2 = B + 1 ∨ vb = some b2) (fun k => k == 3 || k == 4 || k == 7 || k == 14) (PuR l.length x0) (PuG B 0 0 (.slice ba k bc) k (.slice av l.length cv) l us #[.int .i64 x0, .int .i64 x1] #[.int .i64 (x0 - k), .int .i64 x1])
                      (by kernel_rfl) (fun k hk => by simp only [Bool.or_eq_true, beq_iff_eq] at hk; show k < 15; omega)
                      (fun L L2 u w hh hg => ⟨by rw [hh 14 rfl]; exact hg.left, by rw [hh 3 rfl, hh 4 rfl]; exact hg.box, by rw [hh 4 rfl]; exact hg.pre, hg.beds, by rw [hh 4 rfl]; exact hg.post⟩)
                      (fun L u w w2 hg hx => hg.mono hx)
                      (fun j => if j = 3 then .slice (some ⟨0, 0, none⟩) 1 1 else if j = 4 then .slice none (l.length + 1) 0 else .int .i64 x0)
                      (fun j hj => ⟨fun h => by subst h; exact ⟨0, rfl⟩, fun h => by subst h; exact ⟨none, 0, rfl⟩, fun h => by subst h; rfl⟩)
                      ⟨HL2.out.drew, fun h => (by cases h), fun _ => (HV.out.ext HXQ.out).ext (Ext.refl _).drew, (show OwnBd _ _ _ _ from own_mono HO2.out (by omega)).ext (Ext.refl _).drew, fun h => (by cases h)⟩ ?_
                    intro T hT hne u hu
                    obtain ⟨k3, u3⟩ := (hu 3 rfl).box rfl
                    obtain ⟨a4, c4, u4⟩ := (hu 4 rfl).app rfl
                    have u7 := (hu 7 rfl).load rfl
                    refine lx_next 3 (by rfl) (by decide) ?_
                    dsimp only [List.take, List.drop]
                    repeat (go_big_quiet_step (fail))
                    refine wpQuiet_nil ?_
                    refine lx_loud (by rfl) (by kernel_rfl) ?_ (fun Q hQ => ?_)
                    · intro L w3 hL hd hcl hC hg
                      obtain ⟨z, rfl⟩ := hC
                      have hx9 := (Ext.refl z.world).alloc (.cells #[.int .i64 0, .slice ba k bc] 41)
                      have hm := hg.mono hx9
                      have hzs : wr.heap.size ≤ z.world.heap.size := z.size
                      have hle := HXQ.out.size
                      go_wp2
                      exact ⟨⟨fun _ => ⟨_, rfl⟩, fun h => absurd h (by decide), fun h => absurd h (by decide)⟩, ⟨z.ext hx9, rfl⟩, ⟨hm.left, fun _ _ => ⟨z.world.heap.size, rfl, heap_new _ _, fun e => by have := HvB.out _ (HVB.out.symm.trans e); omega⟩, hm.pre, hm.beds, hm.post⟩⟩
                    rw [u3]
                    go_simp
                    with_reducible refine hQ _ ?_
                    clear hQ Q
                    refine lx_loud (by rfl) (by kernel_rfl) ?_ (fun Q hQ => ?_)
                    · intro L w3 hL hd hcl hC hg
                      obtain ⟨z, rfl⟩ := hC
                      obtain ⟨kb, e3, hb3, hne3⟩ := hg.box (hd 3 (by kernel_rfl)) hL
                      obtain rfl : kb = k3 := by rw [u3] at e3; cases e3; rfl
                      have hv := hg.pre hL
                      have h14 := hcl.off hL 30 14 (by kernel_rfl)
                      have hzs : wr.heap.size ≤ z.world.heap.size := z.size
                      have hle := HXQ.out.size
                      refine wp_append_vals_at rfl _ _ 38 41 _ 2 32 rfl info_vis (by kernel_rfl) rfl (by decide) B _ l.length (lvC l us) rfl hv.vis.outer (some ⟨kb, 0, none⟩) 1 1 [.int .i64 0, .slice ba k bc] rfl (fun h => by cases h) rfl (fun ad h j u hj => by
                        cases h
                        match j, hj with
                        | 0, hj => (simp at hj; subst hj; simp [Addr.add, World.cell?, hb3])
                        | 1, hj => (simp at hj; subst hj; simp [Addr.add, World.cell?, hb3])) (fun u hu => by simp at hu; rcases hu with rfl | rfl <;> rfl) (by omega) (by omega) (by omega) ?_
                      intro v4 w4 ho4 hg4 hat
                      have hC4 := grown_chg hg4
                      have hP := hv.vis.push (x := ⟨0, ones k⟩) (u := .slice ba k bc) (by have := own_mono hg.beds (base' := B) (by omega); rw [ones_length]; exact this) ho4 hg4
                      obtain ⟨av4, cv4, rfl, -⟩ := hP.vis
                      have hln : (l ++ [(⟨0, ones k⟩ : LV)]).length = l.length + 1 := by simp
                      have hH : HvO w4 B (.slice av4 (l ++ [(⟨0, ones k⟩ : LV)]).length cv4) (l ++ [⟨0, ones k⟩]) (us ++ [.slice ba k bc]) := by
                        refine ⟨hP, fun j e => ?_, fun u hu j e => ?_, fun x hx => ?_⟩
                        · rcases hat with h | h
                          · exact hv.ne j (h ▸ e)
                          · have := hg.left.lt
                            rw [e] at h; cases h; omega
                        · rcases List.mem_append.1 hu with hu | hu
                          · exact hv.nes u hu j e
                          · obtain rfl : u = .slice ba k bc := by simpa using hu
                            have := HbB.out j e; omega
                        · rcases List.mem_append.1 hx with hx | hx
                          · exact hv.fits x hx
                          · obtain rfl : x = ⟨0, ones k⟩ := by simpa using hx
                            refine ⟨by show I64 0; simp [I64], fun b hb => ?_, by show (ones k).length ≤ _; rw [ones_length]; omega⟩
                            obtain rfl : b = 101 := (List.mem_replicate.1 hb).2
                            simp [I64]
                      rw [hln] at hH
                      have hL4 := hg.left.chg hC4 (fun e => hv.ne _ e rfl)
                      have hB4 := hg.beds.chg hC4 (fun j e1 e2 => own_ne hg.beds hv.vis.outer (by decide) j e1 e2)
                      have HH := Lib.hid hH
                      have HL4 := Lib.hid hL4
                      have HB4 := Lib.hid hB4
                      have HC4 := Lib.hid hC4
                      rw [hln]
                      clear hH hL4 hB4 hC4 hP ho4 hg4 hat hv
                      go_wp2
                      exact ⟨⟨fun h => absurd h (by decide), fun _ => ⟨_, _, rfl⟩, fun h => absurd h (by decide)⟩, ⟨z.chgd HC4.out (fun j e => .inr fun _ => .inr (HVB.out.symm.trans e)), rfl⟩, ⟨HL4.out, fun _ h => (by simp [upd] at h), fun h => (by simp [upd] at h), HB4.out, fun _ => HH.out⟩⟩
                    rw [u4]
                    go_simp
                    with_reducible refine hQ _ ?_
                    clear hQ Q
                    refine lx_next 2 (by rfl) (by decide) ?_
                    dsimp only [List.take, List.drop]
                    repeat (go_big_quiet_step (fail))
                    refine wpQuiet_nil ?_
                    refine lx_loud (by rfl) (by kernel_rfl) ?_ (fun Q hQ => ?_)
                    · intro L w3 hL hd hcl hC hg
                      obtain ⟨z, rfl⟩ := hC
                      have h14 := hcl.off hL 30 14 (by kernel_rfl)
                      have hB := hg.left
                      rw [h14] at hB
                      have c7 := hB.cell 0 (v := .int .i64 x0) rfl
                      have HG := Lib.hid hg
                      clear hB hg
                      go_wp2
                      exact ⟨⟨fun h => absurd h (by decide), fun h => absurd h (by decide), fun _ => rfl⟩, ⟨z, rfl⟩, ⟨HG.out.left, HG.out.box, HG.out.pre, HG.out.beds, HG.out.post⟩⟩
                    rw [u7]
                    go_simp
                    with_reducible refine hQ _ ?_
                    clear hQ Q
                    refine lx_next 6 (by rfl) (by decide) ?_
                    dsimp only [List.take, List.drop]
                    repeat (go_big_quiet_step (fail))
                    refine wpQuiet_nil ?_
                    refine lx_loud (by rfl) (by kernel_rfl) ?_ (fun Q hQ => ?_)
                    · intro L w3 hL hd hcl hC hg
                      obtain ⟨z, rfl⟩ := hC
                      have h4 : L 4 = true := hd 4 (by kernel_rfl)
                      have hB := hg.left
                      rw [hL] at hB
                      have c14 := hB.cell 0 (v := .int .i64 x0) rfl
                      have f14 := hB.frozen 0
                      have l14 := hB.lt
                      have hs := hB.set 0 (.int .i64 (x0 - k))
                      have hset := Chg.setCell (S := (· = B + 1)) (Chg.refl _ z.world) (p := ⟨B + 1, 0, none⟩) (.inr rfl) (.int .i64 (x0 - k))
                      have hp := (hg.post h4).chg hset
                      have hbd := hg.beds.chg hset (fun j e h => by have := HbB.out _ e; omega)
                      have HP := Lib.hid hp
                      have HBD := Lib.hid hbd
                      have HS := Lib.hid hs
                      have H4 := Lib.hid h4
                      clear hp hbd hs hB hg hset h4
                      go_wp2
                      exact ⟨⟨fun h => absurd h (by decide), fun h => absurd h (by decide), fun h => absurd h (by decide)⟩, ⟨z.setCell (.inr (.inl rfl)) _, rfl⟩, ⟨HS.out, fun _ h => (by have h2 : L 4 = false := h; rw [H4.out] at h2; cases h2), fun h => (by have h2 : L 4 = false := h; rw [H4.out] at h2; cases h2), HBD.out, fun _ => HP.out⟩⟩
                    go_simp
                    with_reducible refine hQ _ ?_
                    clear hQ Q
                    refine lx_nil ?_
                    intro z hG
                    have hP := hG.post rfl
                    rw [u4] at hP
                    have hLn : Blk z.world (B + 1) #[.int .i64 (x0 - k), .int .i64 x1] := hG.left
                    have hzx := z.chg
                    have hnz : ∀ j, j < B → ¬ ∃ o : Nat, (fun b2 (_ : Nat) => b2 = B + 1 ∨ vb = some b2) j o := fun j hj => by rintro ⟨_, h | h⟩; omega; have := HvB.out _ h; omega
                    have hEz := Chg.to_ext (hx8.trans HXQ.out) hzx (fun j h => by by_cases hj : j < B; exact absurd h (hnz j hj); omega)
                    have hRz := (HR.out.ext HXQ.out).chg hzx (hnz _ (by omega))
                    have hCz := (HC.out.ext HXQ.out).chg hzx (hnz _ (by omega))
                    have hAz := (HA.out.ext HXQ.out).chg hzx (hnz _ (by omega))
                    have HP := Lib.hid hP
                    have HLn := Lib.hid hLn
                    have HEz := Lib.hid hEz
                    have HRz := Lib.hid hRz
                    have HCz := Lib.hid hCz
                    have HAz := Lib.hid hAz
                    generalize z.world = wz at *
                    clear hP hLn hEz hRz hCz hAz hzx hnz hG z hT hne hu u3 u4 u7 m0 m1 fm1 hml hll2
                    go_wp2
                    go_roundw
                    case rel => exact ⟨_, _, _, _, _, rfl, HSt.out, HP.out, HLn.out, ⟨HRz.out, HCz.out, HAz.out⟩, HEz.out⟩
                    case measure => simp [lenOf]; omega
              · obtain ⟨n, hn⟩ : ∃ n : Nat, min 3 x1 = n := ⟨(min 3 x1).toNat, by omega⟩
                have hn3 : 1 ≤ n ∧ n ≤ 3 := by omega
                have hSt := HI.out.step1 hf h0 h1
                rw [hn] at hSt
                rw [Int.toNat_natCast] at hSt
                have HSt := Lib.hid hSt
                have hmin : (if x1 < 3 then x1 else 3) = n := by omega
                clear hSt
                go_upto_region 20 with fail
                have hM : Blk (wr.alloc (.cells #[.int .i64 1, .slice none 0 0] 41)) wr.heap.size #[.int .i64 1, .slice none 0 0] := Blk.new _ _ _
                have hxm := (Ext.refl wr).alloc (.cells #[.int .i64 1, .slice none 0 0] 41)
                generalize hWm : World.alloc wr _ = wm at *
                obtain ⟨D, hD⟩ : ∃ D, wr.heap.size = D := ⟨_, rfl⟩
                rw [hD] at hM
                rw [hD]
                have hDw : wm.heap.size = D + 1 := by rw [← hWm, ← hD]; simp
                have hBD : B + 1 < D := by omega
                have HM := Lib.hid hM
                have HXM := Lib.hid hxm
                clear hWm hM hxm l0 l1
                obtain ⟨w0, rfl⟩ : ∃ x, x = wr := ⟨_, rfl⟩
                go_wp2
                go_loopw [18] (fun kv wq => ∃ (k : Nat) (bv : Value), k ≤ n ∧ kv = .int .i64 k ∧ Blk wq D #[.int .i64 1, bv] ∧ OwnBd wq (D + 1) bv k ∧ Ext w0 wq) (fun kv _ => n - (intOf kv).toNat)
                case atStart => exact ⟨0, _, Nat.zero_le _, rfl, HM.out, World.ownsRow_nil _ _ _ _, HXM.out⟩
                case round =>
                  obtain ⟨k, bv, hk, rfl, hM, hO, hxq⟩ := hrel
                  obtain ⟨ba, bc, rfl⟩ := hO.shape
                  have HM2 := Lib.hid hM
                  have HO2 := Lib.hid hO
                  have m1 := hM.cell 1 (v := .slice ba k bc) rfl
                  have fm1 := hM.frozen 1
                  have hml := hM.lt
                  have hL2 := HL.out.ext hxq
                  have l0 := hL2.cell 0 (v := .int .i64 x0) rfl
                  have l1 := hL2.cell 1 (v := .int .i64 x1) rfl
                  have hll2 := hL2.lt
                  have HXQ := Lib.hid hxq
                  have HL2 := Lib.hid hL2
                  clear hM hO hxq hL2 HM HXM
                  by_cases hlt : k < n
                  · have hO0 := HO2.out.ext ((Ext.refl wr).alloc (.cells #[.int .i64 101] 42))
                    have hbB : ∀ j, (Value.slice ba k bc).ownBlock = some j → D + 1 ≤ j := fun j e => (own_lt HO2.out j e).1
                    have HO0 := Lib.hid hO0
                    have HbB := Lib.hid hbB
                    clear hO0 hbB
                    go_wp2_with (at_builtin; refine wp_append_vals rfl _ _ 39 42 _ 1 8 rfl info_bed (by kernel_rfl) rfl (by decide) (D + 1) _ k ((ones k).map (Value.int .i64)) rfl HO0.out (some ⟨wr.heap.size, 0, none⟩) 1 1 [.int .i64 101] rfl (fun h => by cases h) rfl (fun ad h j u hj => by cases h; match j, hj with | 0, hj => (simp at hj; subst hj; exact (Blk.new wr #[.int .i64 101] _).cell 0 rfl)) (fun u hu => by simp at hu; subst hu; rfl) (by omega) (by omega) (by simp [go_sem]; omega) ?_)
                    intro v4 w4 ho4 hg4
                    have hC4 := Chg.trans (((Ext.refl wr).alloc (.cells #[.int .i64 101] 42)).chg _) (grown_chg hg4)
                    have hO4 : OwnBd w4 (D + 1) v4 (k + 1) := by unfold OwnBd; rw [ones_succ, List.map_append]; exact ho4
                    obtain ⟨q1, q2, rfl⟩ := hO4.shape
                    have hM4 := HM2.out.chg hC4 (fun e => by have := HbB.out _ e; omega)
                    have hL4 := HL2.out.chg hC4 (fun e => by have := HbB.out _ e; omega)
                    have hE4 := Chg.to_ext HXQ.out hC4 (fun j e => by have := HbB.out _ e; omega)
                    have hm4 := hM4.lt
                    have fm4 := hM4.frozen 1
                    have cm4 := hM4.cell 1 (v := .slice ba k bc) rfl
                    have hM5 := hM4.set 1 (.slice q1 (k + 1) q2)
                    have hset := Chg.setCell (S := (· = D)) (Chg.refl _ w4) (p := ⟨D, 1, none⟩) (.inr rfl) (.slice q1 (k + 1) q2)
                    have hO5 := hO4.chg hset (fun j e h => by have := (own_lt hO4 j e).1; omega)
                    have hE5 := Chg.to_ext hE4 hset (by rintro j rfl; omega)
                    have HM5 := Lib.hid hM5
                    have HO5 := Lib.hid hO5
                    have HE5 := Lib.hid hE5
                    clear ho4 hg4 hC4 hO4 hM4 hL4 hE4 hM5 hset hO5 hE5
                    go_wp2
                    go_roundw
                    case rel => exact ⟨k + 1, _, by omega, by go_num, HM5.out, HO5.out, HE5.out⟩
                    case measure => simp [intOf]; omega
                  · obtain rfl : k = n := by omega
                    have hbB : ∀ j, (Value.slice ba k bc).ownBlock = some j → D + 1 ≤ j := fun j e => (own_lt HO2.out j e).1
                    have hvB : ∀ j, (Value.slice av l.length cv).ownBlock = some j → B ≤ j ∧ j < D := fun j e => by have := own_lt HV.out.vis.outer j e; omega
                    have hvne := HV.out.ne
                    obtain ⟨vb, hvb⟩ : ∃ vb, (Value.slice av l.length cv).ownBlock = vb := ⟨_, rfl⟩
                    rw [hvb] at hvB hvne
                    have hX1 : ¬ D = B + 1 := by omega
                    have hX2 : ¬ vb = some D := fun e => by have := hvB _ e; omega
                    have m0 := HM2.out.cell 0 (v := .int .i64 1) rfl
                    obtain ⟨N, hN⟩ : ∃ N, wr.heap.size = N := ⟨_, rfl⟩
                    have HN := Lib.hid hN
                    have HVB := Lib.hid hvb
                    have HvB := Lib.hid hvB
                    have Hvne := Lib.hid hvne
                    have HbB := Lib.hid hbB
                    clear hN hvb hvB hvne hbB
                    go_upto_region 24 with fail
                    clear l0 l1
                    refine wp_region_lat (by kernel_rfl) (fun b2 _ => b2 = B + 1 ∨ vb = some b2) (fun k => k == 3 || k == 4 || k == 7 || k == 14) (PuR l.length x1) (PuG B 0 1 (.slice ba k bc) k (.slice av l.length cv) l us #[.int .i64 x0, .int .i64 x1] #[.int .i64 x0, .int .i64 (x1 - k)])
                      (by kernel_rfl) (fun k hk => by simp only [Bool.or_eq_true, beq_iff_eq] at hk; show k < 15; omega)
                      (fun L L2 u w hh hg => ⟨by rw [hh 14 rfl]; exact hg.left, by rw [hh 3 rfl, hh 4 rfl]; exact hg.box, by rw [hh 4 rfl]; exact hg.pre, hg.beds, by rw [hh 4 rfl]; exact hg.post⟩)
                      (fun L u w w2 hg hx => hg.mono hx)
                      (fun j => if j = 3 then .slice (some ⟨0, 0, none⟩) 1 1 else if j = 4 then .slice none (l.length + 1) 0 else .int .i64 x1)
                      (fun j hj => ⟨fun h => by subst h; exact ⟨0, rfl⟩, fun h => by subst h; exact ⟨none, 0, rfl⟩, fun h => by subst h; rfl⟩)
                      ⟨HL2.out.drew, fun h => (by cases h), fun _ => (HV.out.ext HXQ.out).ext (Ext.refl _).drew, (show OwnBd _ _ _ _ from own_mono HO2.out (by omega)).ext (Ext.refl _).drew, fun h => (by cases h)⟩ ?_
                    intro T hT hne u hu
                    obtain ⟨k3, u3⟩ := (hu 3 rfl).box rfl
                    obtain ⟨a4, c4, u4⟩ := (hu 4 rfl).app rfl
                    have u7 := (hu 7 rfl).load rfl
                    refine lx_next 3 (by rfl) (by decide) ?_
                    dsimp only [List.take, List.drop]
                    repeat (go_big_quiet_step (fail))
                    refine wpQuiet_nil ?_
                    refine lx_loud (by rfl) (by kernel_rfl) ?_ (fun Q hQ => ?_)
                    · intro L w3 hL hd hcl hC hg
                      obtain ⟨z, rfl⟩ := hC
                      have hx9 := (Ext.refl z.world).alloc (.cells #[.int .i64 1, .slice ba k bc] 41)
                      have hm := hg.mono hx9
                      have hzs : wr.heap.size ≤ z.world.heap.size := z.size
                      have hle := HXQ.out.size
                      go_wp2
                      exact ⟨⟨fun _ => ⟨_, rfl⟩, fun h => absurd h (by decide), fun h => absurd h (by decide)⟩, ⟨z.ext hx9, rfl⟩, ⟨hm.left, fun _ _ => ⟨z.world.heap.size, rfl, heap_new _ _, fun e => by have := HvB.out _ (HVB.out.symm.trans e); omega⟩, hm.pre, hm.beds, hm.post⟩⟩
                    rw [u3]
                    go_simp
                    with_reducible refine hQ _ ?_
                    clear hQ Q
                    refine lx_loud (by rfl) (by kernel_rfl) ?_ (fun Q hQ => ?_)
                    · intro L w3 hL hd hcl hC hg
                      obtain ⟨z, rfl⟩ := hC
                      obtain ⟨kb, e3, hb3, hne3⟩ := hg.box (hd 3 (by kernel_rfl)) hL
                      obtain rfl : kb = k3 := by rw [u3] at e3; cases e3; rfl
                      have hv := hg.pre hL
                      have h14 := hcl.off hL 30 14 (by kernel_rfl)
                      have hzs : wr.heap.size ≤ z.world.heap.size := z.size
                      have hle := HXQ.out.size
                      refine wp_append_vals_at rfl _ _ 38 41 _ 2 32 rfl info_vis (by kernel_rfl) rfl (by decide) B _ l.length (lvC l us) rfl hv.vis.outer (some ⟨kb, 0, none⟩) 1 1 [.int .i64 1, .slice ba k bc] rfl (fun h => by cases h) rfl (fun ad h j u hj => by
                        cases h
                        match j, hj with
                        | 0, hj => (simp at hj; subst hj; simp [Addr.add, World.cell?, hb3])
                        | 1, hj => (simp at hj; subst hj; simp [Addr.add, World.cell?, hb3])) (fun u hu => by simp at hu; rcases hu with rfl | rfl <;> rfl) (by omega) (by omega) (by omega) ?_
                      intro v4 w4 ho4 hg4 hat
                      have hC4 := grown_chg hg4
                      have hP := hv.vis.push (x := ⟨1, ones k⟩) (u := .slice ba k bc) (by have := own_mono hg.beds (base' := B) (by omega); rw [ones_length]; exact this) ho4 hg4
                      obtain ⟨av4, cv4, rfl, -⟩ := hP.vis
                      have hln : (l ++ [(⟨1, ones k⟩ : LV)]).length = l.length + 1 := by simp
                      have hH : HvO w4 B (.slice av4 (l ++ [(⟨1, ones k⟩ : LV)]).length cv4) (l ++ [⟨1, ones k⟩]) (us ++ [.slice ba k bc]) := by
                        refine ⟨hP, fun j e => ?_, fun u hu j e => ?_, fun x hx => ?_⟩
                        · rcases hat with h | h
                          · exact hv.ne j (h ▸ e)
                          · have := hg.left.lt
                            rw [e] at h; cases h; omega
                        · rcases List.mem_append.1 hu with hu | hu
                          · exact hv.nes u hu j e
                          · obtain rfl : u = .slice ba k bc := by simpa using hu
                            have := HbB.out j e; omega
                        · rcases List.mem_append.1 hx with hx | hx
                          · exact hv.fits x hx
                          · obtain rfl : x = ⟨1, ones k⟩ := by simpa using hx
                            refine ⟨by show I64 1; simp [I64], fun b hb => ?_, by show (ones k).length ≤ _; rw [ones_length]; omega⟩
                            obtain rfl : b = 101 := (List.mem_replicate.1 hb).2
                            simp [I64]
                      rw [hln] at hH
                      have hL4 := hg.left.chg hC4 (fun e => hv.ne _ e rfl)
                      have hB4 := hg.beds.chg hC4 (fun j e1 e2 => own_ne hg.beds hv.vis.outer (by decide) j e1 e2)
                      have HH := Lib.hid hH
                      have HL4 := Lib.hid hL4
                      have HB4 := Lib.hid hB4
                      have HC4 := Lib.hid hC4
                      rw [hln]
                      clear hH hL4 hB4 hC4 hP ho4 hg4 hat hv
                      go_wp2
                      exact ⟨⟨fun h => absurd h (by decide), fun _ => ⟨_, _, rfl⟩, fun h => absurd h (by decide)⟩, ⟨z.chgd HC4.out (fun j e => .inr fun _ => .inr (HVB.out.symm.trans e)), rfl⟩, ⟨HL4.out, fun _ h => (by simp [upd] at h), fun h => (by simp [upd] at h), HB4.out, fun _ => HH.out⟩⟩
                    rw [u4]
                    go_simp
                    with_reducible refine hQ _ ?_
                    clear hQ Q
                    refine lx_next 2 (by rfl) (by decide) ?_
                    dsimp only [List.take, List.drop]
                    repeat (go_big_quiet_step (fail))
                    refine wpQuiet_nil ?_
                    refine lx_loud (by rfl) (by kernel_rfl) ?_ (fun Q hQ => ?_)
                    · intro L w3 hL hd hcl hC hg
                      obtain ⟨z, rfl⟩ := hC
                      have h14 := hcl.off hL 30 14 (by kernel_rfl)
                      have hB := hg.left
                      rw [h14] at hB
                      have c7 := hB.cell 1 (v := .int .i64 x1) rfl
                      have HG := Lib.hid hg
                      clear hB hg
                      go_wp2
                      exact ⟨⟨fun h => absurd h (by decide), fun h => absurd h (by decide), fun _ => rfl⟩, ⟨z, rfl⟩, ⟨HG.out.left, HG.out.box, HG.out.pre, HG.out.beds, HG.out.post⟩⟩
                    rw [u7]
                    go_simp
                    with_reducible refine hQ _ ?_
                    clear hQ Q
                    refine lx_next 6 (by rfl) (by decide) ?_
                    dsimp only [List.take, List.drop]
                    repeat (go_big_quiet_step (fail))
                    refine wpQuiet_nil ?_
                    refine lx_loud (by rfl) (by kernel_rfl) ?_ (fun Q hQ => ?_)
                    · intro L w3 hL hd hcl hC hg
                      obtain ⟨z, rfl⟩ := hC
                      have h4 : L 4 = true := hd 4 (by kernel_rfl)
                      have hB := hg.left
                      rw [hL] at hB
                      have c14 := hB.cell 1 (v := .int .i64 x1) rfl
                      have f14 := hB.frozen 1
                      have l14 := hB.lt
                      have hs := hB.set 1 (.int .i64 (x1 - k))
                      have hset := Chg.setCell (S := (· = B + 1)) (Chg.refl _ z.world) (p := ⟨B + 1, 1, none⟩) (.inr rfl) (.int .i64 (x1 - k))
                      have hp := (hg.post h4).chg hset
                      have hbd := hg.beds.chg hset (fun j e h => by have := HbB.out _ e; omega)
                      have HP := Lib.hid hp
                      have HBD := Lib.hid hbd
                      have HS := Lib.hid hs
                      have H4 := Lib.hid h4
                      clear hp hbd hs hB hg hset h4
                      go_wp2
                      exact ⟨⟨fun h => absurd h (by decide), fun h => absurd h (by decide), fun h => absurd h (by decide)⟩, ⟨z.setCell (.inr (.inl rfl)) _, rfl⟩, ⟨HS.out, fun _ h => (by have h2 : L 4 = false := h; rw [H4.out] at h2; cases h2), fun h => (by have h2 : L 4 = false := h; rw [H4.out] at h2; cases h2), HBD.out, fun _ => HP.out⟩⟩
                    go_simp
                    with_reducible refine hQ _ ?_
                    clear hQ Q
                    refine lx_nil ?_
                    intro z hG
                    have hP := hG.post rfl
                    rw [u4] at hP
                    have hLn : Blk z.world (B + 1) #[.int .i64 x0, .int .i64 (x1 - k)] := hG.left
                    have hzx := z.chg
                    have hnz : ∀ j, j < B → ¬ ∃ o : Nat, (fun b2 (_ : Nat) => b2 = B + 1 ∨ vb = some b2) j o := fun j hj => by rintro ⟨_, h | h⟩; omega; have := HvB.out _ h; omega
                    have hEz := Chg.to_ext (hx8.trans HXQ.out) hzx (fun j h => by by_cases hj : j < B; exact absurd h (hnz j hj); omega)
                    have hRz := (HR.out.ext HXQ.out).chg hzx (hnz _ (by omega))
                    have hCz := (HC.out.ext HXQ.out).chg hzx (hnz _ (by omega))
                    have hAz := (HA.out.ext HXQ.out).chg hzx (hnz _ (by omega))
                    have HP := Lib.hid hP
                    have HLn := Lib.hid hLn
                    have HEz := Lib.hid hEz
                    have HRz := Lib.hid hRz
                    have HCz := Lib.hid hCz
                    have HAz := Lib.hid hAz
                    generalize z.world = wz at *
                    clear hP hLn hEz hRz hCz hAz hzx hnz hG z hT hne hu u3 u4 u7 m0 m1 fm1 hml hll2
                    go_wp2
                    go_roundw
                    case rel => exact ⟨_, _, _, _, _, rfl, HSt.out, HP.out, HLn.out, ⟨HRz.out, HCz.out, HAz.out⟩, HEz.out⟩
                    case measure => simp [lenOf]; omega
            · have hPl := hc_Play K av cv wr HI.out hf (show ¬ (0 < x0 ∧ 0 < x1) by omega) (by omega) (by omega) (W := W) (by rw [HVA.out, HVB.out]; exact HWW.out) (counts_at HC.out) hvis HV.out.fits
              have HPl := Lib.hid hPl
              have hWs : sp = 0 → W = f := by
                intro h
                have hv : va = vb := by rw [← HVA.out, ← HVB.out, HZ.out h]
                rw [← HWW.out, hv]
                simp [hcLess]
              have HWs := Lib.hid hWs
              have r0 := HR.out.cell 0 (v := .slice (some ⟨K, 0, none⟩) 2 2) rfl
              have r1 := HR.out.cell 1 (v := .int .i64 f) rfl
              have r2 := HR.out.cell 2 (v := .int .i64 0) rfl
              have r3 := HR.out.cell 3 (v := .bool false) rfl
              have hrl := HR.out.lt
              clear hPl hWs hvis
              go_wp2_with fail
              refine HPl.out.mono ?_
              rintro e w9 ⟨a0, a1, a2, n0, n1, n2, c0, c1, c2, wb, wc9, nx, rd, rfl, hwb, hx9⟩
              have hR9 := HR.out.ext hx9
              have hA9 := HA.out.ext hx9
              have r1 := hR9.cell 1 (v := .int .i64 f) rfl
              have s1 := hA9.cell 1 (v := .int .i64 sp) rfl
              have hrl := hR9.lt
              have hsl := hA9.lt
              have hwl := lt_of_cell hwb
              simp only at hwl
              have hE9 := hx8.trans hx9
              have HE9 := Lib.hid hE9
              clear hR9 hA9 hx9 hE9 l0 l1
              by_cases hs0 : sp = 0
              · obtain rfl : W = f := HWs.out hs0
                subst hs0
                go_wp2_with fail
                refine (pub_Leg _).mono ?_
                rintro e w10 ⟨rfl, hx10⟩
                have hE10 := (HE9.out.alloc _).trans hx10
                go_wp2_with fail
                refine (pub_Team _).mono ?_
                rintro e w11 ⟨rfl, hx11⟩
                go_wp2
                go_ret
                exact ⟨rfl, hE10.trans hx11⟩
              · go_wp2_with fail
                refine (pub_Leg _).mono ?_
                rintro e w10 ⟨rfl, hx10⟩
                have hE10 := (HE9.out.alloc _).trans hx10
                go_wp2_with fail
                refine (pub_Team _).mono ?_
                rintro e w11 ⟨rfl, hx11⟩
                go_wp2
                go_ret
                exact ⟨rfl, hE10.trans hx11⟩
          · have hPl := hc_Play K av cv wr HI.out hf (show ¬ (0 < x0 ∧ 0 < x1) by omega) (by omega) (by omega) (W := W) (by rw [HVA.out, HVB.out]; exact HWW.out) (counts_at HC.out) hvis HV.out.fits
            have HPl := Lib.hid hPl
            have hWs : sp = 0 → W = f := by
              intro h
              have hv : va = vb := by rw [← HVA.out, ← HVB.out, HZ.out h]
              rw [← HWW.out, hv]
              simp [hcLess]
            have HWs := Lib.hid hWs
            have r0 := HR.out.cell 0 (v := .slice (some ⟨K, 0, none⟩) 2 2) rfl
            have r1 := HR.out.cell 1 (v := .int .i64 f) rfl
            have r2 := HR.out.cell 2 (v := .int .i64 0) rfl
            have r3 := HR.out.cell 3 (v := .bool false) rfl
            have hrl := HR.out.lt
            clear hPl hWs hvis
            go_wp2_with fail
            refine HPl.out.mono ?_
            rintro e w9 ⟨a0, a1, a2, n0, n1, n2, c0, c1, c2, wb, wc9, nx, rd, rfl, hwb, hx9⟩
            have hR9 := HR.out.ext hx9
            have hA9 := HA.out.ext hx9
            have r1 := hR9.cell 1 (v := .int .i64 f) rfl
            have s1 := hA9.cell 1 (v := .int .i64 sp) rfl
            have hrl := hR9.lt
            have hsl := hA9.lt
            have hwl := lt_of_cell hwb
            simp only at hwl
            have hE9 := hx8.trans hx9
            have HE9 := Lib.hid hE9
            clear hR9 hA9 hx9 hE9 l0 l1
            by_cases hs0 : sp = 0
            · obtain rfl : W = f := HWs.out hs0
              subst hs0
              go_wp2_with fail
              refine (pub_Leg _).mono ?_
              rintro e w10 ⟨rfl, hx10⟩
              have hE10 := (HE9.out.alloc _).trans hx10
              go_wp2_with fail
              refine (pub_Team _).mono ?_
              rintro e w11 ⟨rfl, hx11⟩
              go_wp2
              go_ret
              exact ⟨rfl, hE10.trans hx11⟩
            · go_wp2_with fail
              refine (pub_Leg _).mono ?_
              rintro e w10 ⟨rfl, hx10⟩
              have hE10 := (HE9.out.alloc _).trans hx10
              go_wp2_with fail
              refine (pub_Team _).mono ?_
              rintro e w11 ⟨rfl, hx11⟩
              go_wp2
              go_ret
              exact ⟨rfl, hE10.trans hx11⟩
end Go.Proofs.Ytoddmaedianliaa
