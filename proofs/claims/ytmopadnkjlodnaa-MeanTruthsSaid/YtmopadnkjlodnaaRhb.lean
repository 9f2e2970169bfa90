/-
  The reference of chapter 6: Hit.
-/
import Derived.Test.YtmopadnkjlodnaaRha
namespace Go.Proofs.Ytmopadnkjlodnaa
open Go.RowKit Go.BigFrame
attribute [local go_sem] Later.cell Later.frozen Lat.cell Lat.frozen
def stdV (r : Int × Bool × Int) : Value := .agg #[.int .i64 r.1, .bool r.2.1, .bool (r.2.2 == 1), .bool (r.2.2 == 2)]
set_option maxHeartbeats 4000000 in
theorem ref_Hit_miss (start gin gout left : Int) (inn : Bool) (w : World) : Calls Try.prog 68 #[.agg #[.int .i64 start, .int .i64 gin, .int .i64 gout], .agg #[.int .i64 left, .bool inn, .bool false, .bool false], .int .i64 0] w fun e w' => e = .returned (stdV (left, inn, 0)) ∧ Ext w w' := by
  go_enter Try.func68, Try.ntmps68
  go_wp2
  refine bodyPost_ret (v := .agg #[.int .i64 left, .bool inn, .bool false, .bool false]) (by simp [results, Try.results68, go_sem]) rfl ⟨rfl, (((Ext.refl w).alloc _).alloc _).alloc _⟩
set_option maxHeartbeats 4000000 in
theorem ref_Hit_shut (start gin gout left : Int) (x : Int) (w : World) (hx : I64 x) (hg : 0 ≤ gin ∧ gin ≤ 2) (h0 : (x == 0) = false) (ho : opn gin x = false) : Calls Try.prog 68 #[.agg #[.int .i64 start, .int .i64 gin, .int .i64 gout], .agg #[.int .i64 left, .bool false, .bool false, .bool false], .int .i64 x] w fun e w' => e = .returned (stdV (left, false, 0)) ∧ Ext w w' := by
  go_enter Try.func68, Try.ntmps68
  have HO := Lib.hid (fun W => ref_Opens gin x W hx hg)
  rw [ho] at HO
  clear hx hg ho
  go_wp2_with fail
  refine (HO.out _).mono ?_
  rintro e w1 ⟨rfl, hx1⟩
  have HX := Lib.hid ((((Ext.refl w).alloc _).alloc _).alloc _ |>.trans hx1)
  have HC : Hid (Blk w1 w.heap.size #[.int .i64 start, .int .i64 gin, .int .i64 gout]) := Lib.hid ((((Blk.new w _ _).alloc _).alloc _).ext hx1)
  have HS : Hid (Blk w1 (w.heap.size + 1) #[.int .i64 left, .bool false, .bool false, .bool false]) := Lib.hid (((Blk.at (w.heap.size + 1) (by simp)).alloc _).ext hx1)
  have HR : Hid (Blk w1 (w.heap.size + 1 + 1) #[.int .i64 0, .bool false, .bool false, .bool false]) := Lib.hid ((Blk.at (w.heap.size + 1 + 1) (by simp)).ext hx1)
  obtain ⟨kc, hkc⟩ : ∃ y, y = w.heap.size := ⟨_, rfl⟩
  obtain ⟨ks, hks⟩ : ∃ y, y = w.heap.size + 1 := ⟨_, rfl⟩
  obtain ⟨kr, hkr⟩ : ∃ y, y = w.heap.size + 1 + 1 := ⟨_, rfl⟩
  rw [← hkr] at HR ⊢
  rw [← hks] at HS ⊢
  rw [← hkc] at HC ⊢
  have HK : Hid (w.heap.size ≤ ks ∧ w.heap.size ≤ kr ∧ ks ≠ kr) := Lib.hid (by omega)
  clear hkc hks hkr hx1
  have c1 := HC.out.cell 1 (v := .int .i64 gin) rfl
  have c2 := HC.out.cell 2 (v := .int .i64 gout) rfl
  have s0 := HS.out.cell 0 (v := .int .i64 left) rfl
  have s1 := HS.out.cell 1 (v := .bool false) rfl
  have s2 := HS.out.cell 2 (v := .bool false) rfl
  have s3 := HS.out.cell 3 (v := .bool false) rfl
  have sf := HS.out.frozen 3
  have sl := HS.out.lt
  have r0 := HR.out.cell 0 (v := .int .i64 0) rfl
  have rf0 := HR.out.frozen 0
  have r1 := HR.out.cell 1 (v := .bool false) rfl
  have rf1 := HR.out.frozen 1
  have r2 := HR.out.cell 2 (v := .bool false) rfl
  have rf2 := HR.out.frozen 2
  have r3 := HR.out.cell 3 (v := .bool false) rfl
  have rf3 := HR.out.frozen 3
  have rl := HR.out.lt
  obtain ⟨n1, n2⟩ : ks ≠ kr ∧ kr ≠ ks := ⟨HK.out.2.2, fun h => HK.out.2.2 h.symm⟩
  go_wp2
  have hq := four_set HR.out (.int .i64 left) (.bool false) (.bool false) (.bool false)
  have hX' := Chg.to_ext HX.out (((((Chg.refl (fun b => b = kr ∨ b = ks) w1).setCell (p := ⟨kr, 0, none⟩) (.inr (.inl rfl)) (.int .i64 left)).setCell (p := ⟨kr, 1, none⟩) (.inr (.inl rfl)) (.bool false)).setCell (p := ⟨kr, 2, none⟩) (.inr (.inl rfl)) (.bool false)).setCell (p := ⟨kr, 3, none⟩) (.inr (.inl rfl)) (.bool false)) (by rintro i (rfl | rfl); exact HK.out.2.1; exact HK.out.1)
  obtain ⟨W, hW⟩ : ∃ y, y = ((((w1.setCell ⟨kr, 0, none⟩ (.int .i64 left)).setCell ⟨kr, 1, none⟩ (.bool false)).setCell ⟨kr, 2, none⟩ (.bool false)).setCell ⟨kr, 3, none⟩ (.bool false)) := ⟨_, rfl⟩
  rw [← hW] at hq hX' ⊢
  have q0 := hq.cell 0 (v := .int .i64 left) rfl
  have q1 := hq.cell 1 (v := .bool false) rfl
  have q2 := hq.cell 2 (v := .bool false) rfl
  have q3 := hq.cell 3 (v := .bool false) rfl
  refine bodyPost_ret (v := .agg #[.int .i64 left, .bool false, .bool false, .bool false]) (by simp [results, Try.results68, go_sem, q0, q1, q2, q3]) rfl ⟨rfl, hX'⟩
/-- A dart that counts. -/
def hitT (gout left n : Int) (inn og : Bool) : Int × Bool × Int := if n = 0 ∧ og = true then (0, true, 1) else if 1 < n ∨ n = 1 ∧ gout = 0 then (n, true, 0) else (left, inn, 2)
theorem hitS_eq {gin gout left x : Int} {inn : Bool} (h : ¬ ((x == 0) = true ∨ inn = false ∧ opn gin x = false)) : hitS gin gout left inn x = hitT gout left (left - wrt x) inn (opn gout x) := by
  unfold hitS hitT
  rw [if_neg h]
  simp only [beq_iff_eq]
set_option maxHeartbeats 4000000 in
theorem ref_Hit_open (start gin gout left : Int) (inn : Bool) (x : Int) (w : World) (hx : I64 x) (hl : I64 (left - wrt x)) (hg : 0 ≤ gin ∧ gin ≤ 2) (hgo : 0 ≤ gout ∧ gout ≤ 2) (h0 : (x == 0) = false) (ho : inn = true ∨ opn gin x = true) : Calls Try.prog 68 #[.agg #[.int .i64 start, .int .i64 gin, .int .i64 gout], .agg #[.int .i64 left, .bool inn, .bool false, .bool false], .int .i64 x] w fun e w' => e = .returned (stdV (hitS gin gout left inn x)) ∧ Ext w w' := by
  have HI := Lib.hid (fun W => ref_Opens gin x W hx hg)
  have HO := Lib.hid (fun W => ref_Opens gout x W hx hgo)
  have HSC := Lib.hid (fun W => ref_Score x W hx)
  have hwr : wrap64 (left - wrt x) = left - wrt x := wrap64_in' hl
  have HOP := Lib.hid ho
  have HWR := Lib.hid hwr
  have HNZ := Lib.hid h0
  clear hx hg hgo ho hl
  cases inn
  · have hop : opn gin x = true := by rcases HOP.out with h | h; cases h; exact h
    have HOPN := Lib.hid (show (false = true ∨ opn gin x = true) from .inr hop)
    rw [hop] at HI
    go_enter Try.func68, Try.ntmps68
    go_wp2_with fail
    refine (HI.out _).mono ?_
    rintro e w1 ⟨rfl, hx1⟩
    have HX := Lib.hid ((((Ext.refl w).alloc _).alloc _).alloc _ |>.trans hx1)
    have HC : Hid (Blk w1 w.heap.size #[.int .i64 start, .int .i64 gin, .int .i64 gout]) := Lib.hid ((((Blk.new w _ _).alloc _).alloc _).ext hx1)
    have HS : Hid (Blk w1 (w.heap.size + 1) #[.int .i64 left, .bool false, .bool false, .bool false]) := Lib.hid (((Blk.at (w.heap.size + 1) (by simp)).alloc _).ext hx1)
    have HR : Hid (Blk w1 (w.heap.size + 1 + 1) #[.int .i64 0, .bool false, .bool false, .bool false]) := Lib.hid ((Blk.at (w.heap.size + 1 + 1) (by simp)).ext hx1)
    obtain ⟨kc, hkc⟩ : ∃ y, y = w.heap.size := ⟨_, rfl⟩
    obtain ⟨ks, hks⟩ : ∃ y, y = w.heap.size + 1 := ⟨_, rfl⟩
    obtain ⟨kr, hkr⟩ : ∃ y, y = w.heap.size + 1 + 1 := ⟨_, rfl⟩
    rw [← hkr] at HR ⊢
    rw [← hks] at HS ⊢
    rw [← hkc] at HC ⊢
    have HK : Hid (w.heap.size ≤ ks ∧ w.heap.size ≤ kr ∧ ks ≠ kr) := Lib.hid (by omega)
    clear hkc hks hkr hx1
    have c1 := HC.out.cell 1 (v := .int .i64 gin) rfl
    have c2 := HC.out.cell 2 (v := .int .i64 gout) rfl
    have s0 := HS.out.cell 0 (v := .int .i64 left) rfl
    have s1 := HS.out.cell 1 (v := .bool false) rfl
    have s2 := HS.out.cell 2 (v := .bool false) rfl
    have s3 := HS.out.cell 3 (v := .bool false) rfl
    have sf := HS.out.frozen 3
    have sl := HS.out.lt
    have r0 := HR.out.cell 0 (v := .int .i64 0) rfl
    have rf0 := HR.out.frozen 0
    have r1 := HR.out.cell 1 (v := .bool false) rfl
    have rf1 := HR.out.frozen 1
    have r2 := HR.out.cell 2 (v := .bool false) rfl
    have rf2 := HR.out.frozen 2
    have r3 := HR.out.cell 3 (v := .bool false) rfl
    have rf3 := HR.out.frozen 3
    have rl := HR.out.lt
    obtain ⟨n1, n2⟩ : ks ≠ kr ∧ kr ≠ ks := ⟨HK.out.2.2, fun h => HK.out.2.2 h.symm⟩
    have hn : ¬ (w1.heap.size ≤ ks) := by omega
    go_wp2_with fail
    refine wp_region_lat (by kernel_rfl) (fun b _ => w1.heap.size ≤ b) (fun _ => false) (fun _ _ => True) (fun _ _ _ => True) (by kernel_rfl) (fun k hk => by cases hk) (fun _ _ _ _ _ h => h) (fun _ _ _ _ h _ => h) (fun _ => undef) (fun _ _ => trivial) trivial ?_
    intro T hT hne2 u hu
    refine lx_next 6 (by rfl) (by decide) ?_
    dsimp only [List.take, List.drop]
    repeat (go_big_quiet_step (with_reducible refine Calls.lat hT (HSC.out _)))
    refine wpQuiet_nil ?_
    refine lx_nil ?_
    intro y hs
    have HE2 := Lib.hid (Chg.to_ext (Ext.refl w1) y.chg (by rintro i ⟨_, h⟩; exact h))
    clear hs hu hT hne2
    generalize y.world = w2 at *
    clear y
    rw [HWR.out]
    have HX2 := Lib.hid (HX.out.trans HE2.out)
    have HC2 := Lib.hid (HC.out.ext HE2.out)
    have HS2 := Lib.hid (HS.out.ext HE2.out)
    have HR2 := Lib.hid (HR.out.ext HE2.out)
    have HH : Hid (hitS gin gout left false x = hitT gout left (left - wrt x) false (opn gout x)) := Lib.hid (hitS_eq (by have := HNZ.out; have := HOPN.out; simp_all))
    clear HX HC HS HR HE2 hn
    clear c1 c2 s0 s1 s2 s3 sf sl r0 rf0 r1 rf1 r2 rf2 r3 rf3 rl n1 n2
    obtain ⟨n, hn⟩ : ∃ y, y = left - wrt x := ⟨_, rfl⟩
    rw [← hn]
    have HN := Lib.hid hn
    clear hn
    have c1 := HC2.out.cell 1 (v := .int .i64 gin) rfl
    have c2 := HC2.out.cell 2 (v := .int .i64 gout) rfl
    have s0 := HS2.out.cell 0 (v := .int .i64 left) rfl
    have s1 := HS2.out.cell 1 (v := .bool false) rfl
    have s2 := HS2.out.cell 2 (v := .bool false) rfl
    have s3 := HS2.out.cell 3 (v := .bool false) rfl
    have sf := HS2.out.frozen 3
    have sl := HS2.out.lt
    have r0 := HR2.out.cell 0 (v := .int .i64 0) rfl
    have rf0 := HR2.out.frozen 0
    have r1 := HR2.out.cell 1 (v := .bool false) rfl
    have rf1 := HR2.out.frozen 1
    have r2 := HR2.out.cell 2 (v := .bool false) rfl
    have rf2 := HR2.out.frozen 2
    have r3 := HR2.out.cell 3 (v := .bool false) rfl
    have rf3 := HR2.out.frozen 3
    have rl := HR2.out.lt
    obtain ⟨n1, n2⟩ : ks ≠ kr ∧ kr ≠ ks := ⟨HK.out.2.2, fun h => HK.out.2.2 h.symm⟩
    by_cases hn0 : n = 0
    · subst hn0
      obtain ⟨go, hgo⟩ : ∃ y, opn gout x = y := ⟨_, rfl⟩
      rw [hgo] at HO
      have HGO := Lib.hid hgo
      clear hgo
      go_wp2_with fail
      refine (HO.out _).mono ?_
      rintro e w3 ⟨rfl, hx3⟩
      have HX3 := Lib.hid (HX2.out.trans hx3)
      have HC3 := Lib.hid (HC2.out.ext hx3)
      have HS3 := Lib.hid (HS2.out.ext hx3)
      have HR3 := Lib.hid (HR2.out.ext hx3)
      clear hx3
      clear c1 c2 s0 s1 s2 s3 sf sl r0 rf0 r1 rf1 r2 rf2 r3 rf3 rl n1 n2
      have c1 := HC3.out.cell 1 (v := .int .i64 gin) rfl
      have c2 := HC3.out.cell 2 (v := .int .i64 gout) rfl
      have s0 := HS3.out.cell 0 (v := .int .i64 left) rfl
      have s1 := HS3.out.cell 1 (v := .bool false) rfl
      have s2 := HS3.out.cell 2 (v := .bool false) rfl
      have s3 := HS3.out.cell 3 (v := .bool false) rfl
      have sf := HS3.out.frozen 3
      have sl := HS3.out.lt
      have r0 := HR3.out.cell 0 (v := .int .i64 0) rfl
      have rf0 := HR3.out.frozen 0
      have r1 := HR3.out.cell 1 (v := .bool false) rfl
      have rf1 := HR3.out.frozen 1
      have r2 := HR3.out.cell 2 (v := .bool false) rfl
      have rf2 := HR3.out.frozen 2
      have r3 := HR3.out.cell 3 (v := .bool false) rfl
      have rf3 := HR3.out.frozen 3
      have rl := HR3.out.lt
      obtain ⟨n1, n2⟩ : ks ≠ kr ∧ kr ≠ ks := ⟨HK.out.2.2, fun h => HK.out.2.2 h.symm⟩
      cases go
      · go_wp2
        have hq0 := HR3.out.chg ((Chg.refl (fun b => b = ks) w3).setCell (p := ⟨ks, 3, none⟩) (.inr rfl) (.bool true)) (fun h => HK.out.2.2 h.symm)
        have hq := four_set hq0 (.int .i64 left) (.bool false) (.bool false) (.bool true)
        have hX' := Chg.to_ext HX3.out ((((((Chg.refl (fun b => b = kr ∨ b = ks) w3).setCell (p := ⟨ks, 3, none⟩) (.inr (.inr rfl)) (.bool true)).setCell (p := ⟨kr, 0, none⟩) (.inr (.inl rfl)) (.int .i64 left)).setCell (p := ⟨kr, 1, none⟩) (.inr (.inl rfl)) (.bool false)).setCell (p := ⟨kr, 2, none⟩) (.inr (.inl rfl)) (.bool false)).setCell (p := ⟨kr, 3, none⟩) (.inr (.inl rfl)) (.bool true)) (by rintro i (rfl | rfl); exact HK.out.2.1; exact HK.out.1)
        obtain ⟨W, hW⟩ : ∃ y, y = (((((w3.setCell ⟨ks, 3, none⟩ (.bool true)).setCell ⟨kr, 0, none⟩ (.int .i64 left)).setCell ⟨kr, 1, none⟩ (.bool false)).setCell ⟨kr, 2, none⟩ (.bool false)).setCell ⟨kr, 3, none⟩ (.bool true)) := ⟨_, rfl⟩
        rw [← hW] at hq hX' ⊢
        have q0 := hq.cell 0 (v := .int .i64 left) rfl
        have q1 := hq.cell 1 (v := .bool false) rfl
        have q2 := hq.cell 2 (v := .bool false) rfl
        have q3 := hq.cell 3 (v := .bool true) rfl
        refine bodyPost_ret (v := .agg #[.int .i64 left, .bool false, .bool false, .bool true]) (by simp [results, Try.results68, go_sem, q0, q1, q2, q3]) rfl ⟨by rw [HH.out, ← HN.out, hitT]; rw [if_neg (by rw [HGO.out]; decide), if_neg (by omega)]; rfl, hX'⟩
      · go_wp2
        have hq := four_set HR3.out (.int .i64 0) (.bool true) (.bool true) (.bool false)
        have hX' := Chg.to_ext HX3.out (((((Chg.refl (fun b => b = kr ∨ b = ks) w3).setCell (p := ⟨kr, 0, none⟩) (.inr (.inl rfl)) (.int .i64 0)).setCell (p := ⟨kr, 1, none⟩) (.inr (.inl rfl)) (.bool true)).setCell (p := ⟨kr, 2, none⟩) (.inr (.inl rfl)) (.bool true)).setCell (p := ⟨kr, 3, none⟩) (.inr (.inl rfl)) (.bool false)) (by rintro i (rfl | rfl); exact HK.out.2.1; exact HK.out.1)
        obtain ⟨W, hW⟩ : ∃ y, y = ((((w3.setCell ⟨kr, 0, none⟩ (.int .i64 0)).setCell ⟨kr, 1, none⟩ (.bool true)).setCell ⟨kr, 2, none⟩ (.bool true)).setCell ⟨kr, 3, none⟩ (.bool false)) := ⟨_, rfl⟩
        rw [← hW] at hq hX' ⊢
        have q0 := hq.cell 0 (v := .int .i64 0) rfl
        have q1 := hq.cell 1 (v := .bool true) rfl
        have q2 := hq.cell 2 (v := .bool true) rfl
        have q3 := hq.cell 3 (v := .bool false) rfl
        refine bodyPost_ret (v := .agg #[.int .i64 0, .bool true, .bool true, .bool false]) (by simp [results, Try.results68, go_sem, q0, q1, q2, q3]) rfl ⟨by rw [HH.out, ← HN.out, hitT]; rw [if_pos ⟨rfl, HGO.out⟩]; rfl, hX'⟩
    · by_cases hn2 : 2 ≤ n
      · go_wp2
        have hq := four_set HR2.out (.int .i64 n) (.bool true) (.bool false) (.bool false)
        have hX' := Chg.to_ext HX2.out (((((Chg.refl (fun b => b = kr ∨ b = ks) w2).setCell (p := ⟨kr, 0, none⟩) (.inr (.inl rfl)) (.int .i64 n)).setCell (p := ⟨kr, 1, none⟩) (.inr (.inl rfl)) (.bool true)).setCell (p := ⟨kr, 2, none⟩) (.inr (.inl rfl)) (.bool false)).setCell (p := ⟨kr, 3, none⟩) (.inr (.inl rfl)) (.bool false)) (by rintro i (rfl | rfl); exact HK.out.2.1; exact HK.out.1)
        obtain ⟨W, hW⟩ : ∃ y, y = ((((w2.setCell ⟨kr, 0, none⟩ (.int .i64 n)).setCell ⟨kr, 1, none⟩ (.bool true)).setCell ⟨kr, 2, none⟩ (.bool false)).setCell ⟨kr, 3, none⟩ (.bool false)) := ⟨_, rfl⟩
        rw [← hW] at hq hX' ⊢
        have q0 := hq.cell 0 (v := .int .i64 n) rfl
        have q1 := hq.cell 1 (v := .bool true) rfl
        have q2 := hq.cell 2 (v := .bool false) rfl
        have q3 := hq.cell 3 (v := .bool false) rfl
        refine bodyPost_ret (v := .agg #[.int .i64 n, .bool true, .bool false, .bool false]) (by simp [results, Try.results68, go_sem, q0, q1, q2, q3]) rfl ⟨by rw [HH.out, ← HN.out, hitT]; rw [if_neg (fun h => hn0 h.1), if_pos (.inl (by omega))]; rfl, hX'⟩
      · by_cases hn1 : n = 1
        · subst hn1
          by_cases hg0 : gout = 0
          · subst hg0
            go_wp2
            have hq := four_set HR2.out (.int .i64 1) (.bool true) (.bool false) (.bool false)
            have hX' := Chg.to_ext HX2.out (((((Chg.refl (fun b => b = kr ∨ b = ks) w2).setCell (p := ⟨kr, 0, none⟩) (.inr (.inl rfl)) (.int .i64 1)).setCell (p := ⟨kr, 1, none⟩) (.inr (.inl rfl)) (.bool true)).setCell (p := ⟨kr, 2, none⟩) (.inr (.inl rfl)) (.bool false)).setCell (p := ⟨kr, 3, none⟩) (.inr (.inl rfl)) (.bool false)) (by rintro i (rfl | rfl); exact HK.out.2.1; exact HK.out.1)
            obtain ⟨W, hW⟩ : ∃ y, y = ((((w2.setCell ⟨kr, 0, none⟩ (.int .i64 1)).setCell ⟨kr, 1, none⟩ (.bool true)).setCell ⟨kr, 2, none⟩ (.bool false)).setCell ⟨kr, 3, none⟩ (.bool false)) := ⟨_, rfl⟩
            rw [← hW] at hq hX' ⊢
            have q0 := hq.cell 0 (v := .int .i64 1) rfl
            have q1 := hq.cell 1 (v := .bool true) rfl
            have q2 := hq.cell 2 (v := .bool false) rfl
            have q3 := hq.cell 3 (v := .bool false) rfl
            refine bodyPost_ret (v := .agg #[.int .i64 1, .bool true, .bool false, .bool false]) (by simp [results, Try.results68, go_sem, q0, q1, q2, q3]) rfl ⟨by rw [HH.out, ← HN.out, hitT]; rw [if_neg (fun h => hn0 h.1), if_pos (.inr ⟨rfl, rfl⟩)]; rfl, hX'⟩
          · go_wp2
            have hq0 := HR2.out.chg ((Chg.refl (fun b => b = ks) w2).setCell (p := ⟨ks, 3, none⟩) (.inr rfl) (.bool true)) (fun h => HK.out.2.2 h.symm)
            have hq := four_set hq0 (.int .i64 left) (.bool false) (.bool false) (.bool true)
            have hX' := Chg.to_ext HX2.out ((((((Chg.refl (fun b => b = kr ∨ b = ks) w2).setCell (p := ⟨ks, 3, none⟩) (.inr (.inr rfl)) (.bool true)).setCell (p := ⟨kr, 0, none⟩) (.inr (.inl rfl)) (.int .i64 left)).setCell (p := ⟨kr, 1, none⟩) (.inr (.inl rfl)) (.bool false)).setCell (p := ⟨kr, 2, none⟩) (.inr (.inl rfl)) (.bool false)).setCell (p := ⟨kr, 3, none⟩) (.inr (.inl rfl)) (.bool true)) (by rintro i (rfl | rfl); exact HK.out.2.1; exact HK.out.1)
            obtain ⟨W, hW⟩ : ∃ y, y = (((((w2.setCell ⟨ks, 3, none⟩ (.bool true)).setCell ⟨kr, 0, none⟩ (.int .i64 left)).setCell ⟨kr, 1, none⟩ (.bool false)).setCell ⟨kr, 2, none⟩ (.bool false)).setCell ⟨kr, 3, none⟩ (.bool true)) := ⟨_, rfl⟩
            rw [← hW] at hq hX' ⊢
            have q0 := hq.cell 0 (v := .int .i64 left) rfl
            have q1 := hq.cell 1 (v := .bool false) rfl
            have q2 := hq.cell 2 (v := .bool false) rfl
            have q3 := hq.cell 3 (v := .bool true) rfl
            refine bodyPost_ret (v := .agg #[.int .i64 left, .bool false, .bool false, .bool true]) (by simp [results, Try.results68, go_sem, q0, q1, q2, q3]) rfl ⟨by rw [HH.out, ← HN.out, hitT]; rw [if_neg (fun h => hn0 h.1), if_neg (by simp [hg0])]; rfl, hX'⟩
        · go_wp2
          have hq0 := HR2.out.chg ((Chg.refl (fun b => b = ks) w2).setCell (p := ⟨ks, 3, none⟩) (.inr rfl) (.bool true)) (fun h => HK.out.2.2 h.symm)
          have hq := four_set hq0 (.int .i64 left) (.bool false) (.bool false) (.bool true)
          have hX' := Chg.to_ext HX2.out ((((((Chg.refl (fun b => b = kr ∨ b = ks) w2).setCell (p := ⟨ks, 3, none⟩) (.inr (.inr rfl)) (.bool true)).setCell (p := ⟨kr, 0, none⟩) (.inr (.inl rfl)) (.int .i64 left)).setCell (p := ⟨kr, 1, none⟩) (.inr (.inl rfl)) (.bool false)).setCell (p := ⟨kr, 2, none⟩) (.inr (.inl rfl)) (.bool false)).setCell (p := ⟨kr, 3, none⟩) (.inr (.inl rfl)) (.bool true)) (by rintro i (rfl | rfl); exact HK.out.2.1; exact HK.out.1)
          obtain ⟨W, hW⟩ : ∃ y, y = (((((w2.setCell ⟨ks, 3, none⟩ (.bool true)).setCell ⟨kr, 0, none⟩ (.int .i64 left)).setCell ⟨kr, 1, none⟩ (.bool false)).setCell ⟨kr, 2, none⟩ (.bool false)).setCell ⟨kr, 3, none⟩ (.bool true)) := ⟨_, rfl⟩
          rw [← hW] at hq hX' ⊢
          have q0 := hq.cell 0 (v := .int .i64 left) rfl
          have q1 := hq.cell 1 (v := .bool false) rfl
          have q2 := hq.cell 2 (v := .bool false) rfl
          have q3 := hq.cell 3 (v := .bool true) rfl
          refine bodyPost_ret (v := .agg #[.int .i64 left, .bool false, .bool false, .bool true]) (by simp [results, Try.results68, go_sem, q0, q1, q2, q3]) rfl ⟨by rw [HH.out, ← HN.out, hitT]; rw [if_neg (fun h => hn0 h.1), if_neg (by omega)]; rfl, hX'⟩
  · go_enter Try.func68, Try.ntmps68
    go_wp2_with fail
    obtain ⟨w1, hw1⟩ : ∃ y, y = ((w.alloc (.cells #[.int .i64 start, .int .i64 gin, .int .i64 gout] 24)).alloc (.cells #[.int .i64 left, .bool true, .bool false, .bool false] 110)).alloc (.cells #[.int .i64 0, .bool false, .bool false, .bool false] 110) := ⟨_, rfl⟩
    rw [← hw1]
    have hx1 : Ext (((w.alloc (.cells #[.int .i64 start, .int .i64 gin, .int .i64 gout] 24)).alloc (.cells #[.int .i64 left, .bool true, .bool false, .bool false] 110)).alloc (.cells #[.int .i64 0, .bool false, .bool false, .bool false] 110)) w1 := hw1 ▸ Ext.refl _
    have HOPN := Lib.hid (show (true = true ∨ opn gin x = true) from .inl rfl)
    clear hw1
    have HX := Lib.hid ((((Ext.refl w).alloc _).alloc _).alloc _ |>.trans hx1)
    have HC : Hid (Blk w1 w.heap.size #[.int .i64 start, .int .i64 gin, .int .i64 gout]) := Lib.hid ((((Blk.new w _ _).alloc _).alloc _).ext hx1)
    have HS : Hid (Blk w1 (w.heap.size + 1) #[.int .i64 left, .bool true, .bool false, .bool false]) := Lib.hid (((Blk.at (w.heap.size + 1) (by simp)).alloc _).ext hx1)
    have HR : Hid (Blk w1 (w.heap.size + 1 + 1) #[.int .i64 0, .bool false, .bool false, .bool false]) := Lib.hid ((Blk.at (w.heap.size + 1 + 1) (by simp)).ext hx1)
    obtain ⟨kc, hkc⟩ : ∃ y, y = w.heap.size := ⟨_, rfl⟩
    obtain ⟨ks, hks⟩ : ∃ y, y = w.heap.size + 1 := ⟨_, rfl⟩
    obtain ⟨kr, hkr⟩ : ∃ y, y = w.heap.size + 1 + 1 := ⟨_, rfl⟩
    rw [← hkr] at HR ⊢
    rw [← hks] at HS ⊢
    rw [← hkc] at HC ⊢
    have HK : Hid (w.heap.size ≤ ks ∧ w.heap.size ≤ kr ∧ ks ≠ kr) := Lib.hid (by omega)
    clear hkc hks hkr hx1
    have c1 := HC.out.cell 1 (v := .int .i64 gin) rfl
    have c2 := HC.out.cell 2 (v := .int .i64 gout) rfl
    have s0 := HS.out.cell 0 (v := .int .i64 left) rfl
    have s1 := HS.out.cell 1 (v := .bool true) rfl
    have s2 := HS.out.cell 2 (v := .bool false) rfl
    have s3 := HS.out.cell 3 (v := .bool false) rfl
    have sf := HS.out.frozen 3
    have sl := HS.out.lt
    have r0 := HR.out.cell 0 (v := .int .i64 0) rfl
    have rf0 := HR.out.frozen 0
    have r1 := HR.out.cell 1 (v := .bool false) rfl
    have rf1 := HR.out.frozen 1
    have r2 := HR.out.cell 2 (v := .bool false) rfl
    have rf2 := HR.out.frozen 2
    have r3 := HR.out.cell 3 (v := .bool false) rfl
    have rf3 := HR.out.frozen 3
    have rl := HR.out.lt
    obtain ⟨n1, n2⟩ : ks ≠ kr ∧ kr ≠ ks := ⟨HK.out.2.2, fun h => HK.out.2.2 h.symm⟩
    have hn : ¬ (w1.heap.size ≤ ks) := by omega
    refine wp_region_lat (by kernel_rfl) (fun b _ => w1.heap.size ≤ b) (fun _ => false) (fun _ _ => True) (fun _ _ _ => True) (by kernel_rfl) (fun k hk => by cases hk) (fun _ _ _ _ _ h => h) (fun _ _ _ _ h _ => h) (fun _ => undef) (fun _ _ => trivial) trivial ?_
    intro T hT hne2 u hu
    refine lx_next 6 (by rfl) (by decide) ?_
    dsimp only [List.take, List.drop]
    repeat (go_big_quiet_step (with_reducible refine Calls.lat hT (HSC.out _)))
    refine wpQuiet_nil ?_
    refine lx_nil ?_
    intro y hs
    have HE2 := Lib.hid (Chg.to_ext (Ext.refl w1) y.chg (by rintro i ⟨_, h⟩; exact h))
    clear hs hu hT hne2
    generalize y.world = w2 at *
    clear y
    rw [HWR.out]
    have HX2 := Lib.hid (HX.out.trans HE2.out)
    have HC2 := Lib.hid (HC.out.ext HE2.out)
    have HS2 := Lib.hid (HS.out.ext HE2.out)
    have HR2 := Lib.hid (HR.out.ext HE2.out)
    have HH : Hid (hitS gin gout left true x = hitT gout left (left - wrt x) true (opn gout x)) := Lib.hid (hitS_eq (by have := HNZ.out; have := HOPN.out; simp_all))
    clear HX HC HS HR HE2 hn
    clear c1 c2 s0 s1 s2 s3 sf sl r0 rf0 r1 rf1 r2 rf2 r3 rf3 rl n1 n2
    obtain ⟨n, hn⟩ : ∃ y, y = left - wrt x := ⟨_, rfl⟩
    rw [← hn]
    have HN := Lib.hid hn
    clear hn
    have c1 := HC2.out.cell 1 (v := .int .i64 gin) rfl
    have c2 := HC2.out.cell 2 (v := .int .i64 gout) rfl
    have s0 := HS2.out.cell 0 (v := .int .i64 left) rfl
    have s1 := HS2.out.cell 1 (v := .bool true) rfl
    have s2 := HS2.out.cell 2 (v := .bool false) rfl
    have s3 := HS2.out.cell 3 (v := .bool false) rfl
    have sf := HS2.out.frozen 3
    have sl := HS2.out.lt
    have r0 := HR2.out.cell 0 (v := .int .i64 0) rfl
    have rf0 := HR2.out.frozen 0
    have r1 := HR2.out.cell 1 (v := .bool false) rfl
    have rf1 := HR2.out.frozen 1
    have r2 := HR2.out.cell 2 (v := .bool false) rfl
    have rf2 := HR2.out.frozen 2
    have r3 := HR2.out.cell 3 (v := .bool false) rfl
    have rf3 := HR2.out.frozen 3
    have rl := HR2.out.lt
    obtain ⟨n1, n2⟩ : ks ≠ kr ∧ kr ≠ ks := ⟨HK.out.2.2, fun h => HK.out.2.2 h.symm⟩
    by_cases hn0 : n = 0
    · subst hn0
      obtain ⟨go, hgo⟩ : ∃ y, opn gout x = y := ⟨_, rfl⟩
      rw [hgo] at HO
      have HGO := Lib.hid hgo
      clear hgo
      go_wp2_with fail
      refine (HO.out _).mono ?_
      rintro e w3 ⟨rfl, hx3⟩
      have HX3 := Lib.hid (HX2.out.trans hx3)
      have HC3 := Lib.hid (HC2.out.ext hx3)
      have HS3 := Lib.hid (HS2.out.ext hx3)
      have HR3 := Lib.hid (HR2.out.ext hx3)
      clear hx3
      clear c1 c2 s0 s1 s2 s3 sf sl r0 rf0 r1 rf1 r2 rf2 r3 rf3 rl n1 n2
      have c1 := HC3.out.cell 1 (v := .int .i64 gin) rfl
      have c2 := HC3.out.cell 2 (v := .int .i64 gout) rfl
      have s0 := HS3.out.cell 0 (v := .int .i64 left) rfl
      have s1 := HS3.out.cell 1 (v := .bool true) rfl
      have s2 := HS3.out.cell 2 (v := .bool false) rfl
      have s3 := HS3.out.cell 3 (v := .bool false) rfl
      have sf := HS3.out.frozen 3
      have sl := HS3.out.lt
      have r0 := HR3.out.cell 0 (v := .int .i64 0) rfl
      have rf0 := HR3.out.frozen 0
      have r1 := HR3.out.cell 1 (v := .bool false) rfl
      have rf1 := HR3.out.frozen 1
      have r2 := HR3.out.cell 2 (v := .bool false) rfl
      have rf2 := HR3.out.frozen 2
      have r3 := HR3.out.cell 3 (v := .bool false) rfl
      have rf3 := HR3.out.frozen 3
      have rl := HR3.out.lt
      obtain ⟨n1, n2⟩ : ks ≠ kr ∧ kr ≠ ks := ⟨HK.out.2.2, fun h => HK.out.2.2 h.symm⟩
      cases go
      · go_wp2
        have hq0 := HR3.out.chg ((Chg.refl (fun b => b = ks) w3).setCell (p := ⟨ks, 3, none⟩) (.inr rfl) (.bool true)) (fun h => HK.out.2.2 h.symm)
        have hq := four_set hq0 (.int .i64 left) (.bool true) (.bool false) (.bool true)
        have hX' := Chg.to_ext HX3.out ((((((Chg.refl (fun b => b = kr ∨ b = ks) w3).setCell (p := ⟨ks, 3, none⟩) (.inr (.inr rfl)) (.bool true)).setCell (p := ⟨kr, 0, none⟩) (.inr (.inl rfl)) (.int .i64 left)).setCell (p := ⟨kr, 1, none⟩) (.inr (.inl rfl)) (.bool true)).setCell (p := ⟨kr, 2, none⟩) (.inr (.inl rfl)) (.bool false)).setCell (p := ⟨kr, 3, none⟩) (.inr (.inl rfl)) (.bool true)) (by rintro i (rfl | rfl); exact HK.out.2.1; exact HK.out.1)
        obtain ⟨W, hW⟩ : ∃ y, y = (((((w3.setCell ⟨ks, 3, none⟩ (.bool true)).setCell ⟨kr, 0, none⟩ (.int .i64 left)).setCell ⟨kr, 1, none⟩ (.bool true)).setCell ⟨kr, 2, none⟩ (.bool false)).setCell ⟨kr, 3, none⟩ (.bool true)) := ⟨_, rfl⟩
        rw [← hW] at hq hX' ⊢
        have q0 := hq.cell 0 (v := .int .i64 left) rfl
        have q1 := hq.cell 1 (v := .bool true) rfl
        have q2 := hq.cell 2 (v := .bool false) rfl
        have q3 := hq.cell 3 (v := .bool true) rfl
        refine bodyPost_ret (v := .agg #[.int .i64 left, .bool true, .bool false, .bool true]) (by simp [results, Try.results68, go_sem, q0, q1, q2, q3]) rfl ⟨by rw [HH.out, ← HN.out, hitT]; rw [if_neg (by rw [HGO.out]; decide), if_neg (by omega)]; rfl, hX'⟩
      · go_wp2
        have hq := four_set HR3.out (.int .i64 0) (.bool true) (.bool true) (.bool false)
        have hX' := Chg.to_ext HX3.out (((((Chg.refl (fun b => b = kr ∨ b = ks) w3).setCell (p := ⟨kr, 0, none⟩) (.inr (.inl rfl)) (.int .i64 0)).setCell (p := ⟨kr, 1, none⟩) (.inr (.inl rfl)) (.bool true)).setCell (p := ⟨kr, 2, none⟩) (.inr (.inl rfl)) (.bool true)).setCell (p := ⟨kr, 3, none⟩) (.inr (.inl rfl)) (.bool false)) (by rintro i (rfl | rfl); exact HK.out.2.1; exact HK.out.1)
        obtain ⟨W, hW⟩ : ∃ y, y = ((((w3.setCell ⟨kr, 0, none⟩ (.int .i64 0)).setCell ⟨kr, 1, none⟩ (.bool true)).setCell ⟨kr, 2, none⟩ (.bool true)).setCell ⟨kr, 3, none⟩ (.bool false)) := ⟨_, rfl⟩
        rw [← hW] at hq hX' ⊢
        have q0 := hq.cell 0 (v := .int .i64 0) rfl
        have q1 := hq.cell 1 (v := .bool true) rfl
        have q2 := hq.cell 2 (v := .bool true) rfl
        have q3 := hq.cell 3 (v := .bool false) rfl
        refine bodyPost_ret (v := .agg #[.int .i64 0, .bool true, .bool true, .bool false]) (by simp [results, Try.results68, go_sem, q0, q1, q2, q3]) rfl ⟨by rw [HH.out, ← HN.out, hitT]; rw [if_pos ⟨rfl, HGO.out⟩]; rfl, hX'⟩
    · by_cases hn2 : 2 ≤ n
      · go_wp2
        have hq := four_set HR2.out (.int .i64 n) (.bool true) (.bool false) (.bool false)
        have hX' := Chg.to_ext HX2.out (((((Chg.refl (fun b => b = kr ∨ b = ks) w2).setCell (p := ⟨kr, 0, none⟩) (.inr (.inl rfl)) (.int .i64 n)).setCell (p := ⟨kr, 1, none⟩) (.inr (.inl rfl)) (.bool true)).setCell (p := ⟨kr, 2, none⟩) (.inr (.inl rfl)) (.bool false)).setCell (p := ⟨kr, 3, none⟩) (.inr (.inl rfl)) (.bool false)) (by rintro i (rfl | rfl); exact HK.out.2.1; exact HK.out.1)
        obtain ⟨W, hW⟩ : ∃ y, y = ((((w2.setCell ⟨kr, 0, none⟩ (.int .i64 n)).setCell ⟨kr, 1, none⟩ (.bool true)).setCell ⟨kr, 2, none⟩ (.bool false)).setCell ⟨kr, 3, none⟩ (.bool false)) := ⟨_, rfl⟩
        rw [← hW] at hq hX' ⊢
        have q0 := hq.cell 0 (v := .int .i64 n) rfl
        have q1 := hq.cell 1 (v := .bool true) rfl
        have q2 := hq.cell 2 (v := .bool false) rfl
        have q3 := hq.cell 3 (v := .bool false) rfl
        refine bodyPost_ret (v := .agg #[.int .i64 n, .bool true, .bool false, .bool false]) (by simp [results, Try.results68, go_sem, q0, q1, q2, q3]) rfl ⟨by rw [HH.out, ← HN.out, hitT]; rw [if_neg (fun h => hn0 h.1), if_pos (.inl (by omega))]; rfl, hX'⟩
      · by_cases hn1 : n = 1
        · subst hn1
          by_cases hg0 : gout = 0
          · subst hg0
            go_wp2
            have hq := four_set HR2.out (.int .i64 1) (.bool true) (.bool false) (.bool false)
            have hX' := Chg.to_ext HX2.out (((((Chg.refl (fun b => b = kr ∨ b = ks) w2).setCell (p := ⟨kr, 0, none⟩) (.inr (.inl rfl)) (.int .i64 1)).setCell (p := ⟨kr, 1, none⟩) (.inr (.inl rfl)) (.bool true)).setCell (p := ⟨kr, 2, none⟩) (.inr (.inl rfl)) (.bool false)).setCell (p := ⟨kr, 3, none⟩) (.inr (.inl rfl)) (.bool false)) (by rintro i (rfl | rfl); exact HK.out.2.1; exact HK.out.1)
            obtain ⟨W, hW⟩ : ∃ y, y = ((((w2.setCell ⟨kr, 0, none⟩ (.int .i64 1)).setCell ⟨kr, 1, none⟩ (.bool true)).setCell ⟨kr, 2, none⟩ (.bool false)).setCell ⟨kr, 3, none⟩ (.bool false)) := ⟨_, rfl⟩
            rw [← hW] at hq hX' ⊢
            have q0 := hq.cell 0 (v := .int .i64 1) rfl
            have q1 := hq.cell 1 (v := .bool true) rfl
            have q2 := hq.cell 2 (v := .bool false) rfl
            have q3 := hq.cell 3 (v := .bool false) rfl
            refine bodyPost_ret (v := .agg #[.int .i64 1, .bool true, .bool false, .bool false]) (by simp [results, Try.results68, go_sem, q0, q1, q2, q3]) rfl ⟨by rw [HH.out, ← HN.out, hitT]; rw [if_neg (fun h => hn0 h.1), if_pos (.inr ⟨rfl, rfl⟩)]; rfl, hX'⟩
          · go_wp2
            have hq0 := HR2.out.chg ((Chg.refl (fun b => b = ks) w2).setCell (p := ⟨ks, 3, none⟩) (.inr rfl) (.bool true)) (fun h => HK.out.2.2 h.symm)
            have hq := four_set hq0 (.int .i64 left) (.bool true) (.bool false) (.bool true)
            have hX' := Chg.to_ext HX2.out ((((((Chg.refl (fun b => b = kr ∨ b = ks) w2).setCell (p := ⟨ks, 3, none⟩) (.inr (.inr rfl)) (.bool true)).setCell (p := ⟨kr, 0, none⟩) (.inr (.inl rfl)) (.int .i64 left)).setCell (p := ⟨kr, 1, none⟩) (.inr (.inl rfl)) (.bool true)).setCell (p := ⟨kr, 2, none⟩) (.inr (.inl rfl)) (.bool false)).setCell (p := ⟨kr, 3, none⟩) (.inr (.inl rfl)) (.bool true)) (by rintro i (rfl | rfl); exact HK.out.2.1; exact HK.out.1)
            obtain ⟨W, hW⟩ : ∃ y, y = (((((w2.setCell ⟨ks, 3, none⟩ (.bool true)).setCell ⟨kr, 0, none⟩ (.int .i64 left)).setCell ⟨kr, 1, none⟩ (.bool true)).setCell ⟨kr, 2, none⟩ (.bool false)).setCell ⟨kr, 3, none⟩ (.bool true)) := ⟨_, rfl⟩
            rw [← hW] at hq hX' ⊢
            have q0 := hq.cell 0 (v := .int .i64 left) rfl
            have q1 := hq.cell 1 (v := .bool true) rfl
            have q2 := hq.cell 2 (v := .bool false) rfl
            have q3 := hq.cell 3 (v := .bool true) rfl
            refine bodyPost_ret (v := .agg #[.int .i64 left, .bool true, .bool false, .bool true]) (by simp [results, Try.results68, go_sem, q0, q1, q2, q3]) rfl ⟨by rw [HH.out, ← HN.out, hitT]; rw [if_neg (fun h => hn0 h.1), if_neg (by simp [hg0])]; rfl, hX'⟩
        · go_wp2
          have hq0 := HR2.out.chg ((Chg.refl (fun b => b = ks) w2).setCell (p := ⟨ks, 3, none⟩) (.inr rfl) (.bool true)) (fun h => HK.out.2.2 h.symm)
          have hq := four_set hq0 (.int .i64 left) (.bool true) (.bool false) (.bool true)
          have hX' := Chg.to_ext HX2.out ((((((Chg.refl (fun b => b = kr ∨ b = ks) w2).setCell (p := ⟨ks, 3, none⟩) (.inr (.inr rfl)) (.bool true)).setCell (p := ⟨kr, 0, none⟩) (.inr (.inl rfl)) (.int .i64 left)).setCell (p := ⟨kr, 1, none⟩) (.inr (.inl rfl)) (.bool true)).setCell (p := ⟨kr, 2, none⟩) (.inr (.inl rfl)) (.bool false)).setCell (p := ⟨kr, 3, none⟩) (.inr (.inl rfl)) (.bool true)) (by rintro i (rfl | rfl); exact HK.out.2.1; exact HK.out.1)
          obtain ⟨W, hW⟩ : ∃ y, y = (((((w2.setCell ⟨ks, 3, none⟩ (.bool true)).setCell ⟨kr, 0, none⟩ (.int .i64 left)).setCell ⟨kr, 1, none⟩ (.bool true)).setCell ⟨kr, 2, none⟩ (.bool false)).setCell ⟨kr, 3, none⟩ (.bool true)) := ⟨_, rfl⟩
          rw [← hW] at hq hX' ⊢
          have q0 := hq.cell 0 (v := .int .i64 left) rfl
          have q1 := hq.cell 1 (v := .bool true) rfl
          have q2 := hq.cell 2 (v := .bool false) rfl
          have q3 := hq.cell 3 (v := .bool true) rfl
          refine bodyPost_ret (v := .agg #[.int .i64 left, .bool true, .bool false, .bool true]) (by simp [results, Try.results68, go_sem, q0, q1, q2, q3]) rfl ⟨by rw [HH.out, ← HN.out, hitT]; rw [if_neg (fun h => hn0 h.1), if_neg (by omega)]; rfl, hX'⟩
end Go.Proofs.Ytmopadnkjlodnaa
