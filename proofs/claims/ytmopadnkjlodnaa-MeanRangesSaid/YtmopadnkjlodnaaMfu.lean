/-
  Package mean: the darts of a visit (the outer loop of from).
-/
import Derived.Test.YtmopadnkjlodnaaMft
namespace Go.Proofs.Ytmopadnkjlodnaa
open Go.RowKit Go.BigFrame
attribute [local go_sem] Oper.semAt_some Later.cell Later.frozen Lat.cell Lat.frozen NoX run_makeMap_plain
/-- What stands between two darts. -/
structure DtI (w : World) (bo lo0 : Nat) (D : List Oc) (LV : List Nw) (W : World) (lv : Nat) (dsn : List Nat) : Prop where
  out : ∃ lo, MapL Gl.agg Ex.agg W bo lo ∧ OutR lo D
  lev : ∃ ll, MapL Nw.agg Yes.val W lv ll ∧ ∀ n, n ∈ LV ↔ n ∈ ll.map (·.1)
  ne : bo ≠ lv
  chg : Chg (· = bo) w W
  kc : Kc S0 w W
  marks : Marks lo0 W dsn
set_option maxRecDepth 100000 in
set_option maxHeartbeats 8000000 in
theorem from_darts (c : Code) (hc : codeBlk 0 (Try.f77.body.getD .skip) = some (.block 0 c)) (Q : Exit → Act → World → Prop) (start gin gout : Int) (s : Sd) (beds : List Int) (bc : Nat) (ba : Option Addr) (bf B2 kb S3 O7 K8 bo lv0 lo0 : Nat) (dsn : List Nat) (w : World) (g0 g1 g4 g5 g6 g7 g10 g11 g12 g13 g14 g15 g16 g17 g18 g19 g20 g21 g22 g23 g24 g25 g26 g27 g28 g29 g30 g31 g32 g33 g34 g36 g37 g38 g39 g40 g41 g42 g43 g44 g45 g46 g47 g48 g49 g50 g51 g52 g53 g54 g55 g56 g57 g58 g59 g60 g61 g62 g63 g64 g65 g66 g67 g68 g69 g70 g71 g72 g73 g74 g75 g76 g77 g78 g79 g80 g81 g82 g83 g84 g85 g86 g87 g88 g89 g90 g91 g92 g93 g94 g95 g96 g97 g98 g99 g100 g101 g102 g103 g104 g105 g106 g107 g108 g109 g110 g111 g112 g113 g114 g115 g116 g117 g118 g119 g120 : Value)
    (h2 : Blk w B2 #[.pointer (some ⟨kb, 0, none⟩)]) (hk : Blk w kb #[.int .i64 start, .int .i64 gin, .int .i64 gout, .slice ba beds.length bc, .map (some bf)]) (hR : RdI S0 w (.slice ba beds.length bc) beds) (hS : Blk w S3 #[.int .i64 s.left, .bool s.inn]) (hO : Blk w O7 #[.map (some bo)]) (h8 : Blk w K8 #[.func (.func 94) #[] #[.pointer (some ⟨O7, 0, none⟩)]]) (hI : DtI w bo lo0 [] [⟨s.left, s.inn, 0⟩] w lv0 dsn) (hl0 : lo0 ≤ w.heap.size) (hx : ∀ k, k ≤ 3 → ∀ n ∈ levN gin gout beds s k, (∀ x, x = 0 ∨ x ∈ beds → I64 x ∧ I64 (n.left - wrt x)) ∧ 0 ≤ n.tried ∧ n.tried ≤ 100) (hlen : beds.length ≤ 100)
    (hQ : ∀ (W : World) (lv : Nat) (dsn' : List Nat) (i : Int) (x10 x11 x12 x13 x36 x37 x38 x39 x40 x41 x42 x43 x44 x45 x46 x47 x48 x49 x50 x51 x52 x53 x54 x55 x56 x57 x58 x59 x95 x96 : Value), DtI w bo lo0 (outTo gin gout beds s 3) (levN gin gout beds s 3) W lv dsn' → Q (.exit 0) { tmps := #[g0, g1, .pointer (some ⟨B2, 0, none⟩), .pointer (some ⟨S3, 0, none⟩), g4, g5, g6, g7, .pointer (some ⟨K8, 0, none⟩), .map (some lv), x10, x11, x12, x13, g14, g15, g16, g17, g18, g19, g20, g21, g22, g23, g24, g25, g26, g27, g28, g29, g30, g31, g32, g33, g34, .int .i64 i, x36, x37, x38, x39, x40, x41, x42, x43, x44, x45, x46, x47, x48, x49, x50, x51, x52, x53, x54, x55, x56, x57, x58, x59, g60, g61, g62, g63, g64, g65, g66, g67, g68, g69, g70, g71, g72, g73, g74, g75, g76, g77, g78, g79, g80, g81, g82, g83, g84, g85, g86, g87, g88, g89, g90, g91, g92, g93, g94, x95, x96, g97, g98, g99, g100, g101, g102, g103, g104, g105, g106, g107, g108, g109, g110, g111, g112, g113, g114, g115, g116, g117, g118, g119, g120], defers := dsn'.map markOf } W) :
    c.wpIn Fence.wide 8 Try.prog Q { tmps := #[g0, g1, .pointer (some ⟨B2, 0, none⟩), .pointer (some ⟨S3, 0, none⟩), g4, g5, g6, g7, .pointer (some ⟨K8, 0, none⟩), .map (some lv0), g10, g11, g12, g13, g14, g15, g16, g17, g18, g19, g20, g21, g22, g23, g24, g25, g26, g27, g28, g29, g30, g31, g32, g33, g34, .int .i64 0, g36, g37, g38, g39, g40, g41, g42, g43, g44, g45, g46, g47, g48, g49, g50, g51, g52, g53, g54, g55, g56, g57, g58, g59, g60, g61, g62, g63, g64, g65, g66, g67, g68, g69, g70, g71, g72, g73, g74, g75, g76, g77, g78, g79, g80, g81, g82, g83, g84, g85, g86, g87, g88, g89, g90, g91, g92, g93, g94, g95, g96, g97, g98, g99, g100, g101, g102, g103, g104, g105, g106, g107, g108, g109, g110, g111, g112, g113, g114, g115, g116, g117, g118, g119, g120], defers := dsn.map markOf } w := by
  simp only [Try.f77, Option.getD_some, codeBlk, ↓reduceIte, Option.some.injEq, Code.block.injEq, true_and] at hc
  subst hc
  have H2 := Lib.hid h2
  have HK := Lib.hid hk
  have HR := Lib.hid hR
  have HS := Lib.hid hS
  have HO := Lib.hid hO
  have H8 := Lib.hid h8
  have HQ := Lib.hid hQ
  have HX := Lib.hid hx
  have HLEN := Lib.hid hlen
  have HL0 := Lib.hid hl0
  have HI0 := Lib.hid hI
  clear hQ h2 hk hR hS hO h8 hx hlen hl0 hI
  refine wpIn_loop (fun a' W => ∃ (x10 x11 x12 x13 x36 x37 x38 x39 x40 x41 x42 x43 x44 x45 x46 x47 x48 x49 x50 x51 x52 x53 x54 x55 x56 x57 x58 x59 x95 x96 : Value) (k : Nat) (i : Int) (lv : Nat) (dsn' : List Nat), i = k ∧ k ≤ 3 ∧ DtI w bo lo0 (outTo gin gout beds s k) (levN gin gout beds s k) W lv dsn' ∧ a' = { tmps := #[g0, g1, .pointer (some ⟨B2, 0, none⟩), .pointer (some ⟨S3, 0, none⟩), g4, g5, g6, g7, .pointer (some ⟨K8, 0, none⟩), .map (some lv), x10, x11, x12, x13, g14, g15, g16, g17, g18, g19, g20, g21, g22, g23, g24, g25, g26, g27, g28, g29, g30, g31, g32, g33, g34, .int .i64 i, x36, x37, x38, x39, x40, x41, x42, x43, x44, x45, x46, x47, x48, x49, x50, x51, x52, x53, x54, x55, x56, x57, x58, x59, g60, g61, g62, g63, g64, g65, g66, g67, g68, g69, g70, g71, g72, g73, g74, g75, g76, g77, g78, g79, g80, g81, g82, g83, g84, g85, g86, g87, g88, g89, g90, g91, g92, g93, g94, x95, x96, g97, g98, g99, g100, g101, g102, g103, g104, g105, g106, g107, g108, g109, g110, g111, g112, g113, g114, g115, g116, g117, g118, g119, g120], defers := dsn'.map markOf }) (fun a' _ => 3 - (intOf (a'.tmps.getD 35 undef)).toNat) ⟨g10, g11, g12, g13, g36, g37, g38, g39, g40, g41, g42, g43, g44, g45, g46, g47, g48, g49, g50, g51, g52, g53, g54, g55, g56, g57, g58, g59, g95, g96, 0, 0, lv0, dsn, rfl, by decide, HI0.out, rfl⟩ ?_
  rintro a' wr ⟨x10, x11, x12, x13, x36, x37, x38, x39, x40, x41, x42, x43, x44, x45, x46, x47, x48, x49, x50, x51, x52, x53, x54, x55, x56, x57, x58, x59, x95, x96, k, i, lv, dsn', hik, hk3, hI, rfl⟩
  have HI := Lib.hid hI
  have HIK := Lib.hid (And.intro hik hk3)
  clear hI hik hk3
  dsimp only
  by_cases hlt : i < 3
  · gi_upto_region 11 with fail
    obtain ⟨w1, hw1⟩ : ∃ y, y = ((wr.alloc (.cells #[.int .i64 i] 3)).alloc (.map #[] 0)).alloc (.cells #[.map (some (wr.heap.size + 1))] 179) := ⟨_, rfl⟩
    rw [← hw1]
    obtain ⟨K10, hk10⟩ : ∃ y, y = wr.heap.size := ⟨_, rfl⟩
    rw [← hk10] at hw1 ⊢
    obtain ⟨ll, hll, hlm⟩ := HI.out.lev
    obtain ⟨lo, hlo, hou⟩ := HI.out.out
    have hx1 : Ext wr w1 := by rw [hw1]; exact (((Ext.refl wr).alloc _).alloc _).alloc _
    have HB10 : Hid (Blk w1 K10 #[.int .i64 i]) := Lib.hid (by rw [hw1, hk10]; exact ((Blk.new _ _ _).alloc _).alloc _)
    have HB11 : Hid (Blk w1 (K10 + 1 + 1) #[.map (some (K10 + 1))]) := Lib.hid (by rw [hw1]; exact Blk.at _ (by simp [hk10]))
    have HNX : Hid (MapL Nw.agg Yes.val w1 (K10 + 1) []) := Lib.hid (by
      have h0 : MapL Nw.agg Yes.val ((wr.alloc (.cells #[.int .i64 i] 3)).alloc (.map #[] 0)) (wr.alloc (.cells #[.int .i64 i] 3)).heap.size ([] : List (Nw × Yes)) := MapL.made _
      have e : (wr.alloc (.cells #[.int .i64 i] 3)).heap.size = K10 + 1 := by simp [hk10]
      rw [e] at h0
      rw [hw1]
      exact h0.ext ((Ext.refl _).alloc _))
    have hs1 : w1.heap.size = K10 + 1 + 1 + 1 := by rw [hw1]; simp [hk10]
    have HS1 := Lib.hid hs1
    have HX1 := Lib.hid hx1
    have HK10 := Lib.hid hk10
    have HLL := Lib.hid (hll.ext hx1)
    have HLO := Lib.hid (hlo.ext hx1)
    have HOU := Lib.hid hou
    have HLM := Lib.hid hlm
    have HBL := Lib.hid (And.intro hlo.lt hll.lt)
    obtain ⟨ob, hrun, hit⟩ := run_rangeL (P := Try.prog) under_level HLL.out
    obtain ⟨w2, hw2⟩ : ∃ y, y = w1.alloc ob := ⟨_, rfl⟩
    have hx2 : Ext w1 w2 := by rw [hw2]; exact (Ext.refl w1).alloc ob
    rw [← hw2] at hrun hit
    have HX2 := Lib.hid hx2
    obtain ⟨R, hR'⟩ : ∃ y, y = w1.heap.size := ⟨_, rfl⟩
    rw [← hR'] at hrun
    have HIT : Hid (IterL Nw.agg Yes.val w2 R lv ll) := Lib.hid (by rw [hR']; exact hit)
    have HRR := Lib.hid hR'
    clear hll hlo hou hlm hx1 hx2 hw1 hw2 hit hs1 hk10 hR'
    gi_wp2
    clear hrun
    have HKC := Lib.hid (HI.out.kc.ext (HX1.out.trans HX2.out))
    refine from_level _ (by kernel_rfl) _ start gin gout s k beds bc ba bf B2 kb S3 O7 K8 K10 (K10 + 1 + 1) bo (K10 + 1) R lv lo0 (outTo gin gout beds s k) [] (levN gin gout beds s k) ll dsn' w2 _ _ _ _ _ _ _ _ _ _ _ _ _ _ _ _ _ _ _ _ _ _ _ _ _ _ _ _ _ _ _ _ _ _ _ _ _ _ _ _ _ _ _ _ _ _ _ _ _ _ _ _ _ _ _ _ _ _ _ _ _ _ _ _ _ _ _ _ _ _ _ _ _ _ _ _ _ _ _ _ _ _ _ _ _ _ _ _ _ _ _ _ _ _ _ _ _ _ _ _ _ _ _ _ _ _ _ _ _ _ _ _ _ _ _
      (HKC.out.blk H2.out id) (HKC.out.blk HK.out id) (HR.out.keep HKC.out) (HKC.out.blk HS.out id) (HKC.out.blk HO.out id) (HKC.out.blk H8.out id) (by rw [← HIK.out.1]; exact HB10.out.ext HX2.out) (HB11.out.ext HX2.out) ⟨lo, [], HLO.out.ext HX2.out, HOU.out, HNX.out.ext HX2.out, by simp⟩ HIT.out HLM.out
      (HI.out.marks.chg (S := S0) ((HX1.out.trans HX2.out).chg _) (fun _ _ h => h)) (Nat.le_trans HL0.out (Nat.le_trans HI.out.chg.size (Nat.le_trans HX1.out.size HX2.out.size))) ?hne (HX.out k HIK.out.2) HIK.out.2 HLEN.out ?hQ
    case hne =>
      have h1 := HBL.out.1
      have h2 := HBL.out.2
      have h3 := HRR.out
      have h4 := HS1.out
      have h5 := HK10.out
      have h6 := HI.out.ne
      exact ⟨by omega, by omega, by omega, fun e => h6 e.symm, by omega⟩
    case hQ =>
      intro W dsn2 y12 y13 y41 y42 y43 y44 y45 y46 y47 y48 y49 y50 y51 y52 y53 y54 y55 y56 y57 y58 y59 htwo hchg hkc hmk
      rename_i K0 a0
      refine a0 _ _ ?_
      dsimp only
      have hb := hkc.blk (HB11.out.ext HX2.out) id
      have c11 := hb.cell 0 (v := .map (some (K10 + 1))) rfl
      have l11 := hb.lt
      have hik := HIK.out
      have hw : wrap64 (i + 1) = i + 1 := wrap64_in' ⟨by omega, by omega⟩
      have HIK2 := Lib.hid hik
      have HLT := Lib.hid hlt
      have HTW := Lib.hid htwo
      have HCH := Lib.hid hchg
      have HKC2 := Lib.hid (HKC.out.trans hkc)
      have HMK := Lib.hid hmk
      clear hb hik htwo hchg hkc hmk hlt
      gi_wp2
      have HW := Lib.hid hw
      clear hw
      obtain ⟨lo', ln', m1, m2, m3, m4⟩ := HTW.out.ex
      have hik := HIK2.out
      have hlt := HLT.out
      have hbk : bo ≠ K10 + 1 := by have := HBL.out.1; have := HK10.out; omega
      have hcc : Chg (· = bo) w W := HI.out.chg.near ((((HX1.out.trans HX2.out).chg _).trans HCH.out).mono (by
        have h1 := HK10.out
        have h2 := HS1.out
        have h3 := HRR.out
        rintro q - (h | h | h)
        · exact .inl h
        · exact .inr (by omega)
        · exact .inr (by omega)))
      refine (show (∃ _, _) ∧ _ from ⟨⟨_, _, _, _, _, _, _, _, _, _, _, _, _, _, _, _, _, _, _, _, _, _, _, _, _, _, _, _, _, _, k + 1, wrap64 (i + 1), K10 + 1, dsn2, by rw [HW.out]; omega, by omega, ⟨⟨lo', m1, m2⟩, ⟨ln', m3, fun n => (m4 n).symm⟩, hbk, hcc, HKC2.out, HMK.out⟩, rfl⟩, ?_⟩)
      simp only [intOf, Array.getD_eq_getD_getElem?]
      simp [HW.out]
      omega
  · obtain rfl : k = 3 := by have := HIK.out; omega
    gi_wp2
    exact HQ.out wr lv dsn' i _ _ _ _ _ _ _ _ _ _ _ _ _ _ _ _ _ _ _ _ _ _ _ _ _ _ _ _ _ _ HI.out
end Go.Proofs.Ytmopadnkjlodnaa
