/-
  Package out: Closed, at a list that is closed.
-/
import Derived.Test.YtpifdeglhalefaaOul
namespace Go.Proofs.Ytpifdeglhalefaa
open Go.RowKit Go.BigFrame
attribute [local go_sem] Oper.semAt_some Later.cell Later.frozen Lat.cell Lat.frozen NoX
/-- Booleans in a row. -/
def BolsAt (w : World) (a : Option Addr) (xs : List Bool) : Prop := ∀ i (h : i < xs.length), ∃ b o, a = some ⟨b, o, none⟩ ∧ w.cell? ⟨b, o + i, none⟩ = some (.bool xs[i])
theorem BolsAt.ext {w w' : World} {a : Option Addr} {xs : List Bool} (h : BolsAt w a xs) (hx : Ext w w') : BolsAt w' a xs := fun i hi => let ⟨b, o, h1, h2⟩ := h i hi; ⟨b, o, h1, hx.cell h2⟩
set_option maxRecDepth 100000 in
set_option maxHeartbeats 8000000 in
theorem out_Closed (beds : List Int) (la : Option Addr) (lc : Nat) (g : Int) (darts : Nat) (nl : List Bool) (na : Option Addr) (n nc : Nat) (w : World) (hc : CellsAt w .i64 la beds) (hr : rulO beds g darts = true) (hn : nl.length = n) (hm : n ≤ 1002) (hnv : BolsAt w na nl)
    (h0 : nl.getD 0 false = false) (hcl : ∀ s : Nat, nl.getD s false = true → ∀ p ∈ thwO g beds s, nl.getD p.2.toNat false = true) :
    Calls Try.prog 20 #[.agg #[.slice la beds.length lc, .int .i64 g, .int .i64 darts], .slice na n nc] w fun e w' => e = .returned (.tuple #[.bool true, .int .i64 0]) ∧ Ext w w' := by
  have hv := rul_wrt hr
  have HV := Lib.hid hv
  have HNL := Lib.hid hn
  have HN0 := Lib.hid h0
  have HCL := Lib.hid hcl
  have HNVW := Lib.hid hnv
  have HCK := Lib.hid (fun W (hx : Ext w W) => out_Check beds g darts la lc W (hc.ext hx) (by have := hv.1; omega) (fun x hx => (hv.2 x hx).1))
  rw [rulE_ok hr] at HCK
  have HNB := Lib.hid (fun W (hx : Ext w W) => out_newBoard beds la lc g 0 0 W (hc.ext hx) hv.1 hv.2 (by omega) (by omega))
  clear hr hc hv hn h0 hcl hnv
  refine (callsIn_wide (n := 8)).1 ?_
  refine callsIn_of_wp_marks Try.func20 rfl trivial ?_ rfl
  simp only [Try.ntmps20, List.size_toArray, List.length_cons, List.length_nil, Nat.reduceAdd, Nat.reduceSub, Array.replicate_succ, Array.replicate_zero, List.push_toArray, List.append_toArray, List.nil_append, List.cons_append]
  gi_upto_region 1 with fail
  obtain ⟨w1, hw1⟩ : ∃ y, y = (((w.alloc (.cells #[.slice la beds.length lc, .int .i64 g, .int .i64 darts] 74)).alloc (.cells #[.slice na n nc] 58)).alloc (.cells #[.bool false] 4)).alloc (.cells #[.int .i64 0] 30) := ⟨_, rfl⟩
  rw [← hw1]
  have HX1 : Hid (Ext w w1) := Lib.hid (by rw [hw1]; exact ((((Ext.refl w).alloc _).alloc _).alloc _).alloc _)
  have HU1 : Hid (Blk w1 w.heap.size #[.slice la beds.length lc, .int .i64 g, .int .i64 darts]) := Lib.hid (by rw [hw1]; exact (((Blk.new w _ _).alloc _).alloc _).alloc _)
  have HN1 : Hid (Blk w1 (w.heap.size + 1) #[.slice na n nc]) := Lib.hid (by rw [hw1]; exact ((Blk.at _ (by simp)).alloc _).alloc _)
  have HR1 : Hid (Blk w1 (w.heap.size + 1 + 1) #[.bool false]) := Lib.hid (by rw [hw1]; exact (Blk.at _ (by simp)).alloc _)
  have HE1 : Hid (Blk w1 (w.heap.size + 1 + 1 + 1) #[.int .i64 0]) := Lib.hid (by rw [hw1]; exact Blk.at _ (by simp))
  clear hw1
  obtain ⟨U, hU⟩ : ∃ y, y = w.heap.size := ⟨_, rfl⟩
  obtain ⟨N3, hN3⟩ : ∃ y, y = w.heap.size + 1 := ⟨_, rfl⟩
  obtain ⟨R4, hR4⟩ : ∃ y, y = w.heap.size + 1 + 1 := ⟨_, rfl⟩
  obtain ⟨R5, hR5⟩ : ∃ y, y = w.heap.size + 1 + 1 + 1 := ⟨_, rfl⟩
  rw [← hR5, ← hR4, ← hN3, ← hU]
  rw [← hN3] at HN1
  rw [← hU] at HU1
  rw [← hR4] at HR1
  rw [← hR5] at HE1
  have HUK : Hid (w.heap.size ≤ R4 ∧ w.heap.size ≤ R5 ∧ R4 ≠ R5) := Lib.hid (by omega)
  clear hU hN3 hR4 hR5
  have u0 := HU1.out.cell 0 (v := .slice la beds.length lc) rfl
  have u1 := HU1.out.cell 1 (v := .int .i64 g) rfl
  have u2 := HU1.out.cell 2 (v := .int .i64 darts) rfl
  have ul := HU1.out.lt
  gi_wp2_with fail
  refine ⟨trivial, (callsIn_wide.2 (HCK.out _ HX1.out)).mono ?_⟩
  rintro e w2 ⟨rfl, hx2⟩
  have HX2 := Lib.hid (HX1.out.trans hx2)
  have HN2 := Lib.hid (HN1.out.ext hx2)
  have HR2 := Lib.hid (HR1.out.ext hx2)
  have HE2 := Lib.hid (HE1.out.ext hx2)
  have u0 := (HU1.out.ext hx2).cell 0 (v := .slice la beds.length lc) rfl
  have u1 := (HU1.out.ext hx2).cell 1 (v := .int .i64 g) rfl
  have ul := (HU1.out.ext hx2).lt
  have n0 := HN2.out.cell 0 (v := .slice na n nc) rfl
  have nlt := HN2.out.lt
  have hnn : ¬ (1002 : Int) < (n : Int) := by omega
  clear hx2 u2 HCK HN1 HR1 HE1
  gi_wp2_with fail
  refine ⟨trivial, (callsIn_wide.2 (HNB.out _ HX2.out)).mono ?_⟩
  rintro e w4 ⟨kb, ba, bc, cv, rfl, h1, h2, h3, h4, hx4⟩
  have HKB := Lib.hid (And.intro h1 (And.intro h2 h3))
  have HX4 := Lib.hid (HX2.out.trans hx4)
  have HN3 := Lib.hid (HN2.out.ext hx4)
  have HR3 := Lib.hid (HR2.out.ext hx4)
  have HE3 := Lib.hid (HE2.out.ext hx4)
  clear h1 h2 h3 h4 hx4 u0 u1 ul n0 nlt hnn HNB HU1 HN2 HR2 HE2
  have n0 := HN3.out.cell 0 (v := .slice na n nc) rfl
  have nlt := HN3.out.lt
  gi_wp2
  clear n0 nlt
  refine wpIn_loop (fun a' W => ∃ (x0 x1 x7 x8 x9 x10 x11 x12 x13 x14 x15 x16 x17 x18 x19 x20 x21 x22 x23 x27 x28 x29 x30 x31 x32 x33 x34 x35 x36 x37 x38 x39 x40 x41 x42 x43 x44 x45 x46 x47 x48 x49 : Value) (k : Nat) (dsn : List Nat), (k ≤ n ∧ Ext w4 W ∧ Marks w4.heap.size W dsn) ∧ a' = { tmps := #[x0, x1, .pointer (some ⟨U, 0, none⟩), .pointer (some ⟨N3, 0, none⟩), .pointer (some ⟨R4, 0, none⟩), .pointer (some ⟨R5, 0, none⟩), .pointer (some ⟨kb, 0, none⟩), x7, x8, x9, x10, x11, x12, x13, x14, x15, x16, x17, x18, x19, x20, x21, x22, x23, .slice na n nc, .int .i64 n, .int .i64 (k : Nat), x27, x28, x29, x30, x31, x32, x33, x34, x35, x36, x37, x38, x39, x40, x41, x42, x43, x44, x45, x46, x47, x48, x49], defers := dsn.map markOf }) (fun a' _ => n - (intOf (a'.tmps.getD 26 undef)).toNat) ⟨_, _, _, _, _, _, _, _, _, _, _, _, _, _, _, _, _, _, _, _, _, _, _, _, _, _, _, _, _, _, _, _, _, _, _, _, _, _, _, _, _, _, 0, [], ⟨Nat.zero_le _, Ext.refl _, Marks.nil _ _⟩, rfl⟩ ?_
  rintro a' wr ⟨x0, x1, x7, x8, x9, x10, x11, x12, x13, x14, x15, x16, x17, x18, x19, x20, x21, x22, x23, x27, x28, x29, x30, x31, x32, x33, x34, x35, x36, x37, x38, x39, x40, x41, x42, x43, x44, x45, x46, x47, x48, x49, k, dsn, ⟨hk, hx, hmk⟩, rfl⟩
  have HX := Lib.hid hx
  have HMK := Lib.hid hmk
  clear hx hmk
  have HBW := Lib.hid (HKB.out.2.1.ext HX.out)
  have HRW : Hid (wr.ownsRow w2.heap.size 124 1 (.slice ba beds.length bc) beds.length (beds.map (Value.int .i64))) := Lib.hid (own_chg HKB.out.2.2 (HX.out.chg fun _ => False) (fun _ _ => id))
  dsimp only
  by_cases hlt : k < n
  · have hlt' : (k : Int) < (n : Int) := by omega
    have hkl : k < nl.length := by rw [HNL.out]; exact hlt
    obtain ⟨nb, no, rfl, c0⟩ := HNVW.out k hkl
    have HNV := HNVW
    have HIV0 : Hid (nl.getD k false = nl[k]) := Lib.hid (by rw [List.getD_eq_getElem?_getD, List.getElem?_eq_getElem hkl]; rfl)
    obtain ⟨iv, hiv⟩ : ∃ y, nl[k] = y := ⟨_, rfl⟩
    rw [hiv] at c0 HIV0
    have c0 := HX.out.cell (HX4.out.cell c0)
    have cl := lt_of_cell c0
    simp only at cl
    clear hiv hkl
    gi_upto_region 9 with fail
    obtain ⟨w6, hw6⟩ : ∃ y, y = wr.alloc (.cells #[.bool iv] 4) := ⟨_, rfl⟩
    obtain ⟨K8, hK8⟩ : ∃ y, y = wr.heap.size := ⟨_, rfl⟩
    rw [← hw6, ← hK8]
    have HX6 : Hid (Ext wr w6) := Lib.hid (by rw [hw6]; exact (Ext.refl wr).alloc _)
    have HK8 : Hid (Blk w6 K8 #[.bool iv]) := Lib.hid (by rw [hw6, hK8]; exact Blk.new _ _ _)
    clear hw6 hK8 c0 cl
    have u0 := HK8.out.cell 0 (v := .bool iv) rfl
    have ul := HK8.out.lt
    cases iv
    · have HIV := HIV0
      gi_wp2_with fail
      refine ⟨trivial, (callsIn_wide.2 (out_throws kb (k : Nat) _)).mono ?_⟩
      rintro e w7 ⟨kp, ks, rfl, hkk, hb1, hb2, hx7⟩
      have HX7 := Lib.hid (HX6.out.trans hx7)
      have HB8 : Hid (Blk w7 K8 #[.bool false]) := Lib.hid (HK8.out.ext hx7)
      have HMK7 : Hid (Marks w4.heap.size w7 dsn) := Lib.hid ⟨HMK.out.nodup, fun D hD => ⟨(HMK.out.all D hD).1, HX7.out.heap (HMK.out.all D hD).2⟩⟩
      have HMB : Hid (∀ D ∈ dsn, D < wr.heap.size) := Lib.hid (fun D hD => (Array.getElem?_eq_some_iff.1 (HMK.out.all D hD).2).1)
      have HSZ : Hid (w4.heap.size ≤ wr.heap.size ∧ wr.heap.size ≤ w7.heap.size) := Lib.hid ⟨HX.out.size, HX7.out.size⟩
      have HSEQ := Lib.hid (throws_seq (fun _ => False) 7 kb kp ks g (k : Nat) cv beds ba bc w7 ⟨id, id, id⟩ (fun q hq => hq.elim) (HBW.out.ext HX7.out) hb1 hb2 ((own_rd (S := fun _ => False) HRW.out (fun _ _ h => h)).keep (Kc.of_ext HX7.out)) HV.out.1 (fun x hx => by
        have h := HV.out.2 x hx
        exact ⟨h.1, ⟨by omega, by omega⟩⟩))
      clear hkk hb1 hb2 hx7 u0 ul
      gi_wp2
      refine wpIn_rangeFunc_b (α := Int × Int) (by decide) (gf := 70) (fb := #[]) (lb := #[.pointer (some ⟨kp, 0, none⟩), .pointer (some ⟨ks, 0, none⟩)]) rfl enters_throws1 HSEQ.out Kc.trans (fun W l o o' _ h ho _ => Kc.put _ W l o o' h ho) (fun _ => rfl)
        (fun pre W => Chg (fun _ => False) w7 W) ?hI ?hV ?h0
        (fun x a' _ => a' = { tmps := #[x0, x1, .pointer (some ⟨U, 0, none⟩), .pointer (some ⟨N3, 0, none⟩), .pointer (some ⟨R4, 0, none⟩), .pointer (some ⟨R5, 0, none⟩), .pointer (some ⟨kb, 0, none⟩), .int .i64 (k : Nat), .pointer (some ⟨K8, 0, none⟩), x9, .int .i64 x.2, x11, x12, x13, x14, x15, x16, x17, x18, x19, x20, x21, x22, x23, .slice (some ⟨nb, no, none⟩) n nc, .int .i64 n, .int .i64 (k : Nat), .bool true, .int .i64 (k : Nat), .pointer (some ⟨nb, no + k, none⟩), .bool false, .bool false, .bool false, undef, undef, .bool false, .pointer (some ⟨kb, 0, none⟩), .int .i64 (k : Nat), .func (.func 70) #[] #[.pointer (some ⟨kp, 0, none⟩), .pointer (some ⟨ks, 0, none⟩)], .agg #[.int .i64 x.1], .int .i64 x.2, x41, x42, x43, x44, x45, x46, x47, x48, x49], defers := [] }) ?hAx ?assign ?body ?done
      case hI =>
        rintro pre A C row h2 hg hr
        have hr2 : ∀ r, row = some r → w7.heap.size ≤ r := fun r e => (hr r e).1
        refine ⟨hg.os.trans h2.os, hg.tape.trans h2.tape, hg.output.trans h2.output, Nat.le_trans h2.size hg.size, fun q hq hs => (hg.block q (Nat.lt_of_lt_of_le hq h2.size) (fun e => ?_)).trans (h2.block q hq hs)⟩
        have h3 := hr2 q e.symm
        omega
      case hV => intro pre x u A C row h _ _; exact h
      case h0 => exact Chg.refl _ _
      case hAx => intro x a' u A C row h _ _; exact h
      case assign =>
        intro l pre x W K hi hv hK
        have HKK := Lib.hid (hK _ W (KeepsFrom.refl _ _) (Kc.refl _ _) hi hv rfl)
        clear hK hi hv
        dsimp only
        gi_wp2
        exact HKK.out
      case body =>
        rintro l pre ⟨xb, xl⟩ a' W hc hv rfl
        have HRES := Lib.hid (And.intro (KeepsFrom.refl w7.heap.size W) (And.intro (Kc.refl (fun _ => False) W) hc))
        have e0 := (HB8.out.chg hc id).cell 0 (v := .bool false) rfl
        have el := (HB8.out.chg hc id).lt
        clear hc hv
        dsimp only
        gi_wp2
        exact HRES.out
      case done =>
        rintro Dm xs W hD rfl hc hk2
        have HX8 : Hid (Ext wr W) := Lib.hid (Chg.to_ext HX7.out hc (fun _ h => h.elim))
        have HM8 : Hid (Marks w4.heap.size W (Dm :: dsn)) := Lib.hid ((HMK7.out.chg hc (fun D hD e => e)).cons (fun h => by have h1 := HMB.out Dm h; have h2 := HSZ.out; omega) (by have h2 := HSZ.out; omega) hk2)
        clear hc hk2 hD HSEQ
        dsimp only
        gi_wp2
        rw [show ((k : Int) + 1) = ((k + 1 : Nat) : Int) by omega]
        exact ⟨⟨_, _, _, _, _, _, _, _, _, _, _, _, _, _, _, _, _, _, _, _, _, _, _, _, _, _, _, _, _, _, _, _, _, _, _, _, _, _, _, _, _, _, k + 1, Dm :: dsn, ⟨by omega, HX.out.trans HX8.out, HM8.out⟩, rfl⟩, by simp [intOf]; omega⟩
    · have HIV := HIV0
      have hk0 : ((k : Int) == 0) = false := by
        have h1 : k ≠ 0 := by
          rintro rfl
          rw [HN0.out] at HIV
          cases HIV.out
        simpa using h1
      gi_wp2_with fail
      refine ⟨trivial, (callsIn_wide.2 (out_throws kb (k : Nat) _)).mono ?_⟩
      rintro e w7 ⟨kp, ks, rfl, hkk, hb1, hb2, hx7⟩
      have HX7 := Lib.hid (HX6.out.trans hx7)
      have HB8 : Hid (Blk w7 K8 #[.bool true]) := Lib.hid (HK8.out.ext hx7)
      have HMK7 : Hid (Marks w4.heap.size w7 dsn) := Lib.hid ⟨HMK.out.nodup, fun D hD => ⟨(HMK.out.all D hD).1, HX7.out.heap (HMK.out.all D hD).2⟩⟩
      have HMB : Hid (∀ D ∈ dsn, D < wr.heap.size) := Lib.hid (fun D hD => (Array.getElem?_eq_some_iff.1 (HMK.out.all D hD).2).1)
      have HSZ : Hid (w4.heap.size ≤ wr.heap.size ∧ wr.heap.size ≤ w7.heap.size) := Lib.hid ⟨HX.out.size, HX7.out.size⟩
      have HSEQ := Lib.hid (throws_seq (fun _ => False) 7 kb kp ks g (k : Nat) cv beds ba bc w7 ⟨id, id, id⟩ (fun q hq => hq.elim) (HBW.out.ext HX7.out) hb1 hb2 ((own_rd (S := fun _ => False) HRW.out (fun _ _ h => h)).keep (Kc.of_ext HX7.out)) HV.out.1 (fun x hx => by
        have h := HV.out.2 x hx
        exact ⟨h.1, ⟨by omega, by omega⟩⟩))
      clear hkk hb1 hb2 hx7 u0 ul
      gi_wp2
      refine wpIn_rangeFunc_b (α := Int × Int) (by decide) (gf := 70) (fb := #[]) (lb := #[.pointer (some ⟨kp, 0, none⟩), .pointer (some ⟨ks, 0, none⟩)]) rfl enters_throws1 HSEQ.out Kc.trans (fun W l o o' _ h ho _ => Kc.put _ W l o o' h ho) (fun _ => rfl)
        (fun pre W => Chg (fun _ => False) w7 W) ?hI ?hV ?h0
        (fun x a' _ => a' = { tmps := #[x0, x1, .pointer (some ⟨U, 0, none⟩), .pointer (some ⟨N3, 0, none⟩), .pointer (some ⟨R4, 0, none⟩), .pointer (some ⟨R5, 0, none⟩), .pointer (some ⟨kb, 0, none⟩), .int .i64 (k : Nat), .pointer (some ⟨K8, 0, none⟩), x9, .int .i64 x.2, x11, x12, x13, x14, x15, x16, x17, x18, x19, x20, x21, x22, x23, .slice (some ⟨nb, no, none⟩) n nc, .int .i64 n, .int .i64 (k : Nat), .bool true, .int .i64 (k : Nat), .pointer (some ⟨nb, no + k, none⟩), .bool true, .bool true, .bool true, .int .i64 (k : Nat), .bool false, .bool false, .pointer (some ⟨kb, 0, none⟩), .int .i64 (k : Nat), .func (.func 70) #[] #[.pointer (some ⟨kp, 0, none⟩), .pointer (some ⟨ks, 0, none⟩)], .agg #[.int .i64 x.1], .int .i64 x.2, x41, x42, x43, x44, x45, x46, x47, x48, x49], defers := [] }) ?hAx ?assign ?body ?done
      case hI =>
        rintro pre A C row h2 hg hr
        have hr2 : ∀ r, row = some r → w7.heap.size ≤ r := fun r e => (hr r e).1
        refine ⟨hg.os.trans h2.os, hg.tape.trans h2.tape, hg.output.trans h2.output, Nat.le_trans h2.size hg.size, fun q hq hs => (hg.block q (Nat.lt_of_lt_of_le hq h2.size) (fun e => ?_)).trans (h2.block q hq hs)⟩
        have h3 := hr2 q e.symm
        omega
      case hV => intro pre x u A C row h _ _; exact h
      case h0 => exact Chg.refl _ _
      case hAx => intro x a' u A C row h _ _; exact h
      case assign =>
        intro l pre x W K hi hv hK
        have HKK := Lib.hid (hK _ W (KeepsFrom.refl _ _) (Kc.refl _ _) hi hv rfl)
        clear hK hi hv
        dsimp only
        gi_wp2
        exact HKK.out
      case body =>
        rintro l pre ⟨xb, xl⟩ a' W hc hv rfl
        have HRES := Lib.hid (And.intro (KeepsFrom.refl w7.heap.size W) (And.intro (Kc.refl (fun _ => False) W) hc))
        have e0 := (HB8.out.chg hc id).cell 0 (v := .bool true) rfl
        have el := (HB8.out.chg hc id).lt
        obtain ⟨hv1, hv2, hv3, hv4⟩ := thwO_mem hv
        have hcl := HCL.out k HIV.out (xb, xl) hv
        dsimp only at hv1 hv2 hv3 hcl ⊢
        have hwr := HV.out.2 xb hv1
        have hx0 : 0 ≤ xl ∧ xl < (k : Int) := by
          unfold aftB at hv3
          rw [hv2]
          refine ⟨?_, by omega⟩
          split at hv3
          · omega
          · split at hv3
            · omega
            · simp at hv3; omega
        obtain ⟨q, rfl⟩ := Int.eq_ofNat_of_zero_le hx0.1
        rw [Int.toNat_natCast] at hcl
        have hqn : q < nl.length := by rw [HNL.out]; omega
        have hqn' : (q : Int) < (n : Int) := by omega
        obtain ⟨nb', no', e', h5⟩ := HNV.out q hqn
        cases e'
        rw [List.getD_eq_getElem?_getD, List.getElem?_eq_getElem hqn] at hcl
        rw [show nl[q] = true from hcl] at h5
        have h5 := (HX7.out.cell (HX.out.cell (HX4.out.cell h5)))
        have h5 := hc.cell h5 id
        have h5l := lt_of_cell h5
        have n3 := (((HN3.out.ext HX.out).ext HX7.out).chg hc id).cell 0 (v := .slice (some ⟨nb, no, none⟩) n nc) rfl
        have n3l := (((HN3.out.ext HX.out).ext HX7.out).chg hc id).lt
        simp only at h5l
        clear hc hv hv1 hv2 hv3 hv4 hwr hx0 hcl
        gi_wp2
        exact HRES.out
      case done =>
        rintro Dm xs W hD rfl hc hk2
        have HX8 : Hid (Ext wr W) := Lib.hid (Chg.to_ext HX7.out hc (fun _ h => h.elim))
        have HM8 : Hid (Marks w4.heap.size W (Dm :: dsn)) := Lib.hid ((HMK7.out.chg hc (fun D hD e => e)).cons (fun h => by have h1 := HMB.out Dm h; have h2 := HSZ.out; omega) (by have h2 := HSZ.out; omega) hk2)
        clear hc hk2 hD HSEQ
        dsimp only
        gi_wp2
        rw [show ((k : Int) + 1) = ((k + 1 : Nat) : Int) by omega]
        exact ⟨⟨_, _, _, _, _, _, _, _, _, _, _, _, _, _, _, _, _, _, _, _, _, _, _, _, _, _, _, _, _, _, _, _, _, _, _, _, _, _, _, _, _, _, k + 1, Dm :: dsn, ⟨by omega, HX.out.trans HX8.out, HM8.out⟩, rfl⟩, by simp [intOf]; omega⟩
  · obtain rfl : k = n := by omega
    have c0 := (HR3.out.ext HX.out).cell 0 (v := .bool false) rfl
    have cf := (HR3.out.ext HX.out).frozen 0
    have cl := (HR3.out.ext HX.out).lt
    have d0 := (HE3.out.ext HX.out).cell 0 (v := .int .i64 0) rfl
    have df := (HE3.out.ext HX.out).frozen 0
    have dl := (HE3.out.ext HX.out).lt
    have hne := HUK.out.2.2
    gi_wp2
    have hC : Chg (fun q => q = R4 ∨ q = R5) wr ((wr.setCell ⟨R4, 0, none⟩ (.bool true)).setCell ⟨R5, 0, none⟩ (.int .i64 0)) := ((Chg.refl (fun q => q = R4 ∨ q = R5) wr).setCell (.inr (.inl rfl)) _).setCell (.inr (.inr rfl)) _
    obtain ⟨w8, hw8⟩ : ∃ y, y = (wr.setCell ⟨R4, 0, none⟩ (.bool true)).setCell ⟨R5, 0, none⟩ (.int .i64 0) := ⟨_, rfl⟩
    rw [← hw8] at hC ⊢
    have HR8 : Hid (Blk w8 R4 #[.bool true]) := Lib.hid (by
      rw [hw8]
      exact (one_set (HR3.out.ext HX.out) _).chg (S := fun q => q = R5) ((Chg.refl (fun q => q = R5) _).setCell (.inr rfl) _) hne)
    have HE8 : Hid (Blk w8 R5 #[.int .i64 0]) := Lib.hid (by
      rw [hw8]
      exact one_set ((HE3.out.ext HX.out).chg (S := fun q => q = R4) ((Chg.refl (fun q => q = R4) _).setCell (.inr rfl) _) (Ne.symm hne)) _)
    have HLT : Hid (R4 < w4.heap.size ∧ R5 < w4.heap.size) := Lib.hid ⟨HR3.out.lt, HE3.out.lt⟩
    have HM8 : Hid (Marks w4.heap.size w8 dsn) := Lib.hid (HMK.out.chg hC (fun D hD e => by have h1 := (HMK.out.all D hD).1; have h2 := HLT.out; rcases e with e | e <;> omega))
    have HX8 : Hid (Ext w w8) := Lib.hid (Chg.to_ext (HX4.out.trans HX.out) hC (fun q e => by have h2 := HUK.out; rcases e with e | e <;> omega))
    clear hw8 hC c0 cf cl d0 df dl
    show LeavesInM _ _ _ _ _ _ (dsn.map markOf) .returning _
    refine ret_mN (v := .tuple #[.bool true, .int .i64 0]) (lo := w4.heap.size) (w := w8) dsn w8 .refl HM8.out ?_
    intro W' hsh
    have y0 := hsh.cell (HR8.out.cell 0 (v := .bool true) rfl)
    have y1 := hsh.cell (HE8.out.cell 0 (v := .int .i64 0) rfl)
    refine ⟨by simp [results, Try.results20, go_sem, y0, y1], rfl, Chg.to_ext (Ext.refl w) (hsh.chg (HX8.out.chg (fun _ => False)) HX4.out.size) (fun _ e => e.elim)⟩
end Go.Proofs.Ytpifdeglhalefaa
