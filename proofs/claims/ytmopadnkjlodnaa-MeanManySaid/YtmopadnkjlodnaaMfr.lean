/-
  Package mean: the extents of all visits from a stand.
-/
import Derived.Test.YtmopadnkjlodnaaMft
import Derived.Laws.EntriesVeiled
namespace Go.Proofs.Ytmopadnkjlodnaa
open Go.RowKit Go.BigFrame
attribute [local go_sem] Oper.semAt_some Later.cell Later.frozen Lat.cell Lat.frozen NoX run_makeMap_plain
/-- What stands between two darts. -/
structure DtI (w : World) (bo lo0 : Nat) (D : List Oc) (LV : List Nw) (W : World) (lv : Nat) (dsn : List Nat) : Prop where
  out : ∃ lo, MapL Gl.agg Ex.agg W bo lo ∧ OutR lo D
  lev : ∃ ll, MapL Nw.agg Yes.val W lv ll ∧ ∀ n, n ∈ LV ↔ n ∈ ll.map (·.1)
  ne : bo ≠ lv
  chg : Chg (· = bo) w W
  kc : Kc S0 w W
  marks : Marks lo0 W dsn
set_option maxRecDepth 100000 in
set_option maxHeartbeats 8000000 in
theorem from_darts (c : Code) (hc : codeBlk 0 (Try.f77.body.getD .skip) = some (.block 0 c)) (Q : Exit → Act → World → Prop) (start gin gout : Int) (s : Sd) (beds : List Int) (bc : Nat) (ba : Option Addr) (bf B2 kb S3 O7 K8 bo lv0 lo0 : Nat) (dsn : List Nat) (w : World) (g0 g1 g4 g5 g6 g7 g10 g11 g12 g13 g14 g15 g16 g17 g18 g19 g20 g21 g22 g23 g24 g25 g26 g27 g28 g29 g30 g31 g32 g33 g34 g36 g37 g38 g39 g40 g41 g42 g43 g44 g45 g46 g47 g48 g49 g50 g51 g52 g53 g54 g55 g56 g57 g58 g59 g60 g61 g62 g63 g64 g65 g66 g67 g68 g69 g70 g71 g72 g73 g74 g75 g76 g77 g78 g79 g80 g81 g82 g83 g84 g85 g86 g87 g88 g89 g90 g91 g92 g93 g94 g95 g96 g97 g98 g99 g100 g101 g102 g103 g104 g105 g106 g107 g108 g109 g110 g111 g112 g113 g114 g115 g116 g117 g118 g119 g120 : Value)
    (h2 : Blk w B2 #[.pointer (some ⟨kb, 0, none⟩)]) (hk : Blk w kb #[.int .i64 start, .int .i64 gin, .int .i64 gout, .slice ba beds.length bc, .map (some bf)]) (hR : RdI S0 w (.slice ba beds.length bc) beds) (hS : Blk w S3 #[.int .i64 s.left, .bool s.inn]) (hO : Blk w O7 #[.map (some bo)]) (h8 : Blk w K8 #[.func (.func 94) #[] #[.pointer (some ⟨O7, 0, none⟩)]]) (hI : DtI w bo lo0 [] [⟨s.left, s.inn, 0⟩] w lv0 dsn) (hl0 : lo0 ≤ w.heap.size) (hx : ∀ k, k ≤ 3 → ∀ n ∈ levN gin gout beds s k, (∀ x, x = 0 ∨ x ∈ beds → I64 x ∧ I64 (n.left - wrt x)) ∧ 0 ≤ n.tried ∧ n.tried ≤ 100) (hlen : beds.length ≤ 100)
    (hQ : ∀ (W : World) (lv : Nat) (dsn' : List Nat) (i : Int) (x10 x11 x12 x13 x36 x37 x38 x39 x40 x41 x42 x43 x44 x45 x46 x47 x48 x49 x50 x51 x52 x53 x54 x55 x56 x57 x58 x59 x95 x96 : Value), DtI w bo lo0 (outTo gin gout beds s 3) (levN gin gout beds s 3) W lv dsn' → Q (.exit 0) { tmps := #[g0, g1, .pointer (some ⟨B2, 0, none⟩), .pointer (some ⟨S3, 0, none⟩), g4, g5, g6, g7, .pointer (some ⟨K8, 0, none⟩), .map (some lv), x10, x11, x12, x13, g14, g15, g16, g17, g18, g19, g20, g21, g22, g23, g24, g25, g26, g27, g28, g29, g30, g31, g32, g33, g34, .int .i64 i, x36, x37, x38, x39, x40, x41, x42, x43, x44, x45, x46, x47, x48, x49, x50, x51, x52, x53, x54, x55, x56, x57, x58, x59, g60, g61, g62, g63, g64, g65, g66, g67, g68, g69, g70, g71, g72, g73, g74, g75, g76, g77, g78, g79, g80, g81, g82, g83, g84, g85, g86, g87, g88, g89, g90, g91, g92, g93, g94, x95, x96, g97, g98, g99, g100, g101, g102, g103, g104, g105, g106, g107, g108, g109, g110, g111, g112, g113, g114, g115, g116, g117, g118, g119, g120], defers := dsn'.map markOf } W) :
    c.wpIn Fence.wide 8 Try.prog Q { tmps := #[g0, g1, .pointer (some ⟨B2, 0, none⟩), .pointer (some ⟨S3, 0, none⟩), g4, g5, g6, g7, .pointer (some ⟨K8, 0, none⟩), .map (some lv0), g10, g11, g12, g13, g14, g15, g16, g17, g18, g19, g20, g21, g22, g23, g24, g25, g26, g27, g28, g29, g30, g31, g32, g33, g34, .int .i64 0, g36, g37, g38, g39, g40, g41, g42, g43, g44, g45, g46, g47, g48, g49, g50, g51, g52, g53, g54, g55, g56, g57, g58, g59, g60, g61, g62, g63, g64, g65, g66, g67, g68, g69, g70, g71, g72, g73, g74, g75, g76, g77, g78, g79, g80, g81, g82, g83, g84, g85, g86, g87, g88, g89, g90, g91, g92, g93, g94, g95, g96, g97, g98, g99, g100, g101, g102, g103, g104, g105, g106, g107, g108, g109, g110, g111, g112, g113, g114, g115, g116, g117, g118, g119, g120], defers := dsn.map markOf } w := by
  simp only [Try.f77, Option.getD_some, codeBlk, ↓reduceIte, Option.some.injEq, Code.block.injEq, true_and] at hc
  subst hc
  have H2 := Lib.hid h2
  have HK := Lib.hid hk
  have HR := Lib.hid hR
  have HS := Lib.hid hS
  have HO := Lib.hid hO
  have H8 := Lib.hid h8
  have HQ := Lib.hid hQ
  have HX := Lib.hid hx
  have HLEN := Lib.hid hlen
  have HL0 := Lib.hid hl0
  have HI0 := Lib.hid hI
  clear hQ h2 hk hR hS hO h8 hx hlen hl0 hI
  refine wpIn_loop (fun a' W => ∃ (x10 x11 x12 x13 x36 x37 x38 x39 x40 x41 x42 x43 x44 x45 x46 x47 x48 x49 x50 x51 x52 x53 x54 x55 x56 x57 x58 x59 x95 x96 : Value) (k : Nat) (i : Int) (lv : Nat) (dsn' : List Nat), i = k ∧ k ≤ 3 ∧ DtI w bo lo0 (outTo gin gout beds s k) (levN gin gout beds s k) W lv dsn' ∧ a' = { tmps := #[g0, g1, .pointer (some ⟨B2, 0, none⟩), .pointer (some ⟨S3, 0, none⟩), g4, g5, g6, g7, .pointer (some ⟨K8, 0, none⟩), .map (some lv), x10, x11, x12, x13, g14, g15, g16, g17, g18, g19, g20, g21, g22, g23, g24, g25, g26, g27, g28, g29, g30, g31, g32, g33, g34, .int .i64 i, x36, x37, x38, x39, x40, x41, x42, x43, x44, x45, x46, x47, x48, x49, x50, x51, x52, x53, x54, x55, x56, x57, x58, x59, g60, g61, g62, g63, g64, g65, g66, g67, g68, g69, g70, g71, g72, g73, g74, g75, g76, g77, g78, g79, g80, g81, g82, g83, g84, g85, g86, g87, g88, g89, g90, g91, g92, g93, g94, x95, x96, g97, g98, g99, g100, g101, g102, g103, g104, g105, g106, g107, g108, g109, g110, g111, g112, g113, g114, g115, g116, g117, g118, g119, g120], defers := dsn'.map markOf }) (fun a' _ => 3 - (intOf (a'.tmps.getD 35 undef)).toNat) ⟨g10, g11, g12, g13, g36, g37, g38, g39, g40, g41, g42, g43, g44, g45, g46, g47, g48, g49, g50, g51, g52, g53, g54, g55, g56, g57, g58, g59, g95, g96, 0, 0, lv0, dsn, rfl, by decide, HI0.out, rfl⟩ ?_
  rintro a' wr ⟨x10, x11, x12, x13, x36, x37, x38, x39, x40, x41, x42, x43, x44, x45, x46, x47, x48, x49, x50, x51, x52, x53, x54, x55, x56, x57, x58, x59, x95, x96, k, i, lv, dsn', hik, hk3, hI, rfl⟩
  have HI := Lib.hid hI
  have HIK := Lib.hid (And.intro hik hk3)
  clear hI hik hk3
  dsimp only
  by_cases hlt : i < 3
  · gi_upto_region 11 with fail
    obtain ⟨w1, hw1⟩ : ∃ y, y = ((wr.alloc (.cells #[.int .i64 i] 3)).alloc (.map #[] 0)).alloc (.cells #[.map (some (wr.heap.size + 1))] 179) := ⟨_, rfl⟩
    rw [← hw1]
    obtain ⟨K10, hk10⟩ : ∃ y, y = wr.heap.size := ⟨_, rfl⟩
    rw [← hk10] at hw1 ⊢
    obtain ⟨ll, hll, hlm⟩ := HI.out.lev
    obtain ⟨lo, hlo, hou⟩ := HI.out.out
    have hx1 : Ext wr w1 := by rw [hw1]; exact (((Ext.refl wr).alloc _).alloc _).alloc _
    have HB10 : Hid (Blk w1 K10 #[.int .i64 i]) := Lib.hid (by rw [hw1, hk10]; exact ((Blk.new _ _ _).alloc _).alloc _)
    have HB11 : Hid (Blk w1 (K10 + 1 + 1) #[.map (some (K10 + 1))]) := Lib.hid (by rw [hw1]; exact Blk.at _ (by simp [hk10]))
    have HNX : Hid (MapL Nw.agg Yes.val w1 (K10 + 1) []) := Lib.hid (by
      have h0 : MapL Nw.agg Yes.val ((wr.alloc (.cells #[.int .i64 i] 3)).alloc (.map #[] 0)) (wr.alloc (.cells #[.int .i64 i] 3)).heap.size ([] : List (Nw × Yes)) := MapL.made _
      have e : (wr.alloc (.cells #[.int .i64 i] 3)).heap.size = K10 + 1 := by simp [hk10]
      rw [e] at h0
      rw [hw1]
      exact h0.ext ((Ext.refl _).alloc _))
    have hs1 : w1.heap.size = K10 + 1 + 1 + 1 := by rw [hw1]; simp [hk10]
    have HS1 := Lib.hid hs1
    have HX1 := Lib.hid hx1
    have HK10 := Lib.hid hk10
    have HLL := Lib.hid (hll.ext hx1)
    have HLO := Lib.hid (hlo.ext hx1)
    have HOU := Lib.hid hou
    have HLM := Lib.hid hlm
    have HBL := Lib.hid (And.intro hlo.lt hll.lt)
    obtain ⟨ob, hrun, hit⟩ := run_rangeL (P := Try.prog) under_level HLL.out
    obtain ⟨w2, hw2⟩ : ∃ y, y = w1.alloc ob := ⟨_, rfl⟩
    have hx2 : Ext w1 w2 := by rw [hw2]; exact (Ext.refl w1).alloc ob
    rw [← hw2] at hrun hit
    have HX2 := Lib.hid hx2
    obtain ⟨R, hR'⟩ : ∃ y, y = w1.heap.size := ⟨_, rfl⟩
    rw [← hR'] at hrun
    have HIT : Hid (IterL Nw.agg Yes.val w2 R lv ll) := Lib.hid (by rw [hR']; exact hit)
    have HRR := Lib.hid hR'
    clear hll hlo hou hlm hx1 hx2 hw1 hw2 hit hs1 hk10 hR'
    gi_wp2
    clear hrun
    have HKC := Lib.hid (HI.out.kc.ext (HX1.out.trans HX2.out))
    refine from_level _ (by kernel_rfl) _ start gin gout s k beds bc ba bf B2 kb S3 O7 K8 K10 (K10 + 1 + 1) bo (K10 + 1) R lv lo0 (outTo gin gout beds s k) [] (levN gin gout beds s k) ll dsn' w2 _ _ _ _ _ _ _ _ _ _ _ _ _ _ _ _ _ _ _ _ _ _ _ _ _ _ _ _ _ _ _ _ _ _ _ _ _ _ _ _ _ _ _ _ _ _ _ _ _ _ _ _ _ _ _ _ _ _ _ _ _ _ _ _ _ _ _ _ _ _ _ _ _ _ _ _ _ _ _ _ _ _ _ _ _ _ _ _ _ _ _ _ _ _ _ _ _ _ _ _ _ _ _ _ _ _ _ _ _ _ _ _ _ _ _
      (HKC.out.blk H2.out id) (HKC.out.blk HK.out id) (HR.out.keep HKC.out) (HKC.out.blk HS.out id) (HKC.out.blk HO.out id) (HKC.out.blk H8.out id) (by rw [← HIK.out.1]; exact HB10.out.ext HX2.out) (HB11.out.ext HX2.out) ⟨lo, [], HLO.out.ext HX2.out, HOU.out, HNX.out.ext HX2.out, by simp⟩ HIT.out HLM.out
      (HI.out.marks.chg (S := S0) ((HX1.out.trans HX2.out).chg _) (fun _ _ h => h)) (Nat.le_trans HL0.out (Nat.le_trans HI.out.chg.size (Nat.le_trans HX1.out.size HX2.out.size))) ?hne (HX.out k HIK.out.2) HIK.out.2 HLEN.out ?hQ
    case hne =>
      have h1 := HBL.out.1
      have h2 := HBL.out.2
      have h3 := HRR.out
      have h4 := HS1.out
      have h5 := HK10.out
      have h6 := HI.out.ne
      exact ⟨by omega, by omega, by omega, fun e => h6 e.symm, by omega⟩
    case hQ =>
      intro W dsn2 y12 y13 y41 y42 y43 y44 y45 y46 y47 y48 y49 y50 y51 y52 y53 y54 y55 y56 y57 y58 y59 htwo hchg hkc hmk
      rename_i K0 a0
      refine a0 _ _ ?_
      dsimp only
      have hb := hkc.blk (HB11.out.ext HX2.out) id
      have c11 := hb.cell 0 (v := .map (some (K10 + 1))) rfl
      have l11 := hb.lt
      have hik := HIK.out
      have hw : wrap64 (i + 1) = i + 1 := wrap64_in' ⟨by omega, by omega⟩
      have HIK2 := Lib.hid hik
      have HLT := Lib.hid hlt
      have HTW := Lib.hid htwo
      have HCH := Lib.hid hchg
      have HKC2 := Lib.hid (HKC.out.trans hkc)
      have HMK := Lib.hid hmk
      clear hb hik htwo hchg hkc hmk hlt
      gi_wp2
      have HW := Lib.hid hw
      clear hw
      obtain ⟨lo', ln', m1, m2, m3, m4⟩ := HTW.out.ex
      have hik := HIK2.out
      have hlt := HLT.out
      have hbk : bo ≠ K10 + 1 := by have := HBL.out.1; have := HK10.out; omega
      have hcc : Chg (· = bo) w W := HI.out.chg.near ((((HX1.out.trans HX2.out).chg _).trans HCH.out).mono (by
        have h1 := HK10.out
        have h2 := HS1.out
        have h3 := HRR.out
        rintro q - (h | h | h)
        · exact .inl h
        · exact .inr (by omega)
        · exact .inr (by omega)))
      refine (show (∃ _, _) ∧ _ from ⟨⟨_, _, _, _, _, _, _, _, _, _, _, _, _, _, _, _, _, _, _, _, _, _, _, _, _, _, _, _, _, _, k + 1, wrap64 (i + 1), K10 + 1, dsn2, by rw [HW.out]; omega, by omega, ⟨⟨lo', m1, m2⟩, ⟨ln', m3, fun n => (m4 n).symm⟩, hbk, hcc, HKC2.out, HMK.out⟩, rfl⟩, ?_⟩)
      simp only [intOf, Array.getD_eq_getD_getElem?]
      simp [HW.out]
      omega
  · obtain rfl : k = 3 := by have := HIK.out; omega
    gi_wp2
    exact HQ.out wr lv dsn' i _ _ _ _ _ _ _ _ _ _ _ _ _ _ _ _ _ _ _ _ _ _ _ _ _ _ _ _ _ _ HI.out
end Go.Proofs.Ytmopadnkjlodnaa
namespace Go.Proofs.Ytmopadnkjlodnaa
open Go.RowKit Go.BigFrame
attribute [local go_sem] Oper.semAt_some Later.cell Later.frozen Lat.cell Lat.frozen NoX
def endO (s : Sd) (n : Nw) : Oc := ⟨⟨s.left - n.left, false⟩, 3, n.tried⟩
/-- What stands between two rounds of the last loop. -/
structure LsI (w : World) (bo R lv : Nat) (D : List Oc) (LV : List Nw) (fo : Nw → Oc) (W : World) (left : List (Nw × Yes)) (dn : List Nw) : Prop where
  it : IterL Nw.agg Yes.val W R lv left
  all : ∀ k, k ∈ LV ↔ k ∈ dn ∨ k ∈ left.map (·.1)
  out : ∃ lo, MapL Gl.agg Ex.agg W bo lo ∧ OutR lo (D ++ dn.map fo)
  chg : Chg (fun k => k = bo ∨ k = R) w W
  kc : Kc S0 w W
set_option maxRecDepth 100000 in
set_option maxHeartbeats 8000000 in
theorem from_last (c : Code) (hc : codeBlk 7 (Try.f77.body.getD .skip) = some (.block 7 c)) (Q : Exit → Act → World → Prop) (s : Sd) (S3 O7 K8 bo R lv : Nat) (D : List Oc) (LV : List Nw) (left0 : List (Nw × Yes)) (ds : List Deferred) (w : World) (g0 g1 g2 g4 g5 g6 g7 g9 g10 g11 g12 g13 g14 g15 g16 g17 g18 g19 g20 g21 g22 g23 g24 g25 g26 g27 g28 g29 g30 g31 g32 g33 g34 g35 g36 g37 g38 g39 g40 g41 g42 g43 g44 g45 g46 g47 g48 g49 g50 g51 g52 g53 g54 g55 g56 g57 g58 g59 g60 g61 g62 g63 g64 g65 g66 g67 g68 g69 g70 g71 g72 g73 g74 g75 g76 g77 g78 g79 g80 g81 g82 g83 g84 g85 g86 g87 g88 g89 g90 g91 g92 g93 g94 g95 g96 g97 g99 g100 g101 g102 g103 g104 g105 g106 g107 g108 g109 g110 g111 g112 g113 g114 g115 g116 g117 g118 g119 g120 : Value)
    (hS : Blk w S3 #[.int .i64 s.left, .bool s.inn]) (hO : Blk w O7 #[.map (some bo)]) (h8 : Blk w K8 #[.func (.func 94) #[] #[.pointer (some ⟨O7, 0, none⟩)]]) (hI : LsI w bo R lv D LV (endO s) w left0 []) (hne : R ≠ bo ∧ lv ≠ bo) (hx : ∀ n ∈ LV, I64 (s.left - n.left))
    (hQ : ∀ (W : World) (x17 x99 x100 x101 x102 x103 x104 x105 x106 x107 x108 x109 x110 x111 x112 x113 : Value), (∃ lo, MapL Gl.agg Ex.agg W bo lo ∧ OutR lo (D ++ LV.map (endO s))) → Chg (fun k => k = bo ∨ k = R) w W → Kc S0 w W → Q (.exit 7) { tmps := #[g0, g1, g2, .pointer (some ⟨S3, 0, none⟩), g4, g5, g6, g7, .pointer (some ⟨K8, 0, none⟩), g9, g10, g11, g12, g13, g14, g15, g16, x17, g18, g19, g20, g21, g22, g23, g24, g25, g26, g27, g28, g29, g30, g31, g32, g33, g34, g35, g36, g37, g38, g39, g40, g41, g42, g43, g44, g45, g46, g47, g48, g49, g50, g51, g52, g53, g54, g55, g56, g57, g58, g59, g60, g61, g62, g63, g64, g65, g66, g67, g68, g69, g70, g71, g72, g73, g74, g75, g76, g77, g78, g79, g80, g81, g82, g83, g84, g85, g86, g87, g88, g89, g90, g91, g92, g93, g94, g95, g96, g97, .pointer (some ⟨R, 0, none⟩), x99, x100, x101, x102, x103, x104, x105, x106, x107, x108, x109, x110, x111, x112, x113, g114, g115, g116, g117, g118, g119, g120], defers := ds } W) :
    c.wpIn Fence.wide 8 Try.prog Q { tmps := #[g0, g1, g2, .pointer (some ⟨S3, 0, none⟩), g4, g5, g6, g7, .pointer (some ⟨K8, 0, none⟩), g9, g10, g11, g12, g13, g14, g15, g16, g17, g18, g19, g20, g21, g22, g23, g24, g25, g26, g27, g28, g29, g30, g31, g32, g33, g34, g35, g36, g37, g38, g39, g40, g41, g42, g43, g44, g45, g46, g47, g48, g49, g50, g51, g52, g53, g54, g55, g56, g57, g58, g59, g60, g61, g62, g63, g64, g65, g66, g67, g68, g69, g70, g71, g72, g73, g74, g75, g76, g77, g78, g79, g80, g81, g82, g83, g84, g85, g86, g87, g88, g89, g90, g91, g92, g93, g94, g95, g96, g97, .pointer (some ⟨R, 0, none⟩), g99, g100, g101, g102, g103, g104, g105, g106, g107, g108, g109, g110, g111, g112, g113, g114, g115, g116, g117, g118, g119, g120], defers := ds } w := by
  simp only [Try.f77, Option.getD_some, codeBlk, ↓reduceIte, Nat.reduceEqDiff, Option.some.injEq, Code.block.injEq, true_and] at hc
  subst hc
  have HS := Lib.hid hS
  have HO := Lib.hid hO
  have H8 := Lib.hid h8
  have HQ := Lib.hid hQ
  have HX := Lib.hid hx
  have HI0 := Lib.hid hI
  have HNE := Lib.hid hne
  obtain ⟨sl, si⟩ := s
  simp only at HS
  clear hQ hS hO h8 hx hI hne
  refine wpIn_loop (fun a' W => ∃ (x17 x99 x100 x101 x102 x103 x104 x105 x106 x107 x108 x109 x110 x111 x112 x113 : Value) (left : List (Nw × Yes)) (dn : List Nw), LsI w bo R lv D LV (endO ⟨sl, si⟩) W left dn ∧ a' = { tmps := #[g0, g1, g2, .pointer (some ⟨S3, 0, none⟩), g4, g5, g6, g7, .pointer (some ⟨K8, 0, none⟩), g9, g10, g11, g12, g13, g14, g15, g16, x17, g18, g19, g20, g21, g22, g23, g24, g25, g26, g27, g28, g29, g30, g31, g32, g33, g34, g35, g36, g37, g38, g39, g40, g41, g42, g43, g44, g45, g46, g47, g48, g49, g50, g51, g52, g53, g54, g55, g56, g57, g58, g59, g60, g61, g62, g63, g64, g65, g66, g67, g68, g69, g70, g71, g72, g73, g74, g75, g76, g77, g78, g79, g80, g81, g82, g83, g84, g85, g86, g87, g88, g89, g90, g91, g92, g93, g94, g95, g96, g97, .pointer (some ⟨R, 0, none⟩), x99, x100, x101, x102, x103, x104, x105, x106, x107, x108, x109, x110, x111, x112, x113, g114, g115, g116, g117, g118, g119, g120], defers := ds }) (fun _ W => itLeft W R lv) ⟨g17, g99, g100, g101, g102, g103, g104, g105, g106, g107, g108, g109, g110, g111, g112, g113, left0, [], HI0.out, rfl⟩ ?_
  rintro a' wr ⟨x17, x99, x100, x101, x102, x103, x104, x105, x106, x107, x108, x109, x110, x111, x112, x113, left, dn, hI, rfl⟩
  have HI := Lib.hid hI
  clear hI
  dsimp only
  gi_wp2_with (gi_at_next; refine wpIn_nextL rfl _ rfl R lv left rfl HI.out.it ?_ ?_)
  · rintro rfl
    have HF : Hid (∃ lo, MapL Gl.agg Ex.agg wr bo lo ∧ OutR lo (D ++ LV.map (endO ⟨sl, si⟩))) := Lib.hid (by
      have hall := HI.out.all
      simp only [List.map_nil, List.not_mem_nil, or_false] at hall
      obtain ⟨lo, h1, h2⟩ := HI.out.out
      exact ⟨lo, h1, h2.congr (fun o => by simp only [List.mem_append, List.mem_map, hall])⟩)
    gi_wp2
    exact HQ.out wr _ _ _ _ _ _ _ _ _ _ _ _ _ _ _ _ HF.out HI.out.chg HI.out.kc
  · intro n y pre post w5 hsp hit5 hc5 hen
    obtain ⟨nl, ni, nt⟩ := n
    unfold Nw.agg Yes.val at hen
    simp only at hen
    have hmem : (⟨nl, ni, nt⟩ : Nw) ∈ LV := (HI.out.all _).2 (.inr (by rw [hsp]; simp))
    have hbd := HX.out _ hmem
    simp only at hbd
    have HBD := Lib.hid hbd
    have HALL : Hid (∀ k, k ∈ LV ↔ k ∈ dn ++ [(⟨nl, ni, nt⟩ : Nw)] ∨ k ∈ (pre ++ post).map (·.1)) := Lib.hid (fun k => by
      rw [HI.out.all, hsp]
      simp only [List.map_append, List.map_cons, List.mem_append, List.mem_cons, List.not_mem_nil, or_false]
      constructor
      · rintro (h | h | h | h)
        · exact .inl (.inl h)
        · exact .inr (.inl h)
        · exact .inl (.inr h)
        · exact .inr (.inr h)
      · rintro ((h | h) | (h | h))
        · exact .inl h
        · exact .inr (.inr (.inl h))
        · exact .inr (.inl h)
        · exact .inr (.inr (.inr h)))
    have HMEA : Hid (itLeft w5 R lv < itLeft wr R lv) := Lib.hid (by rw [HI.out.it.count, hit5.count, hsp]; simp)
    have HIT5 := Lib.hid hit5
    have HC5 := Lib.hid hc5
    have HKC5 : Hid (Kc S0 w w5) := Lib.hid (HI.out.kc.trans ⟨hc5.size, fun k cs t f hk _ => hc5.heap hk (by rintro rfl; exact HI.out.it.notCells.1 _ _ _ hk)⟩)
    obtain ⟨lo, hlo, hou⟩ := HI.out.out
    have HLO := Lib.hid (hlo.chg hc5 (fun e => HNE.out.1 e.symm))
    have HOU := Lib.hid hou
    clear hmem hbd hsp hit5 hc5 hlo hou
    gi_upto_region 29 with fail
    obtain ⟨w6, hw6⟩ : ∃ y, y = w5.alloc (.cells #[.int .i64 nl, .bool ni, .int .i64 nt] 127) := ⟨_, rfl⟩
    rw [← hw6]
    obtain ⟨K12, hk12⟩ : ∃ y, y = w5.heap.size := ⟨_, rfl⟩
    rw [← hk12]
    have hx6 : Ext w5 w6 := by rw [hw6]; exact (Ext.refl w5).alloc _
    have HB12 : Hid (Blk w6 K12 #[.int .i64 nl, .bool ni, .int .i64 nt]) := Lib.hid (by rw [hw6, hk12]; exact Blk.new _ _ _)
    have HX6 := Lib.hid hx6
    have HKC6 := Lib.hid (HKC5.out.ext hx6)
    clear hw6 hk12 hx6 hen
    have nx0 := HB12.out.cell 0 (v := .int .i64 nl) rfl
    have nx1 := HB12.out.cell 1 (v := .bool ni) rfl
    have nx2 := HB12.out.cell 2 (v := .int .i64 nt) rfl
    have nxl := HB12.out.lt
    have sx0 := (HKC6.out.blk HS.out id).cell 0 (v := .int .i64 sl) rfl
    have sx1 := (HKC6.out.blk HS.out id).cell 1 (v := .bool si) rfl
    have sxl := (HKC6.out.blk HS.out id).lt
    have cx0 := (HKC6.out.blk H8.out id).cell 0 (v := .func (.func 94) #[] #[.pointer (some ⟨O7, 0, none⟩)]) rfl
    have cxl := (HKC6.out.blk H8.out id).lt
    have HOO := Lib.hid ((HKC6.out.blk HO.out id).cell 0 (v := .map (some bo)) rfl)
    have HCA := Lib.hid (mean_from1 ⟨sl - nl, false⟩ 3 nt O7 bo lo w6 HOO.out (HLO.out.ext HX6.out))
    unfold Gl.agg at HCA
    simp only at HCA
    have hw : wrap64 (sl - nl) = sl - nl := wrap64_in' HBD.out
    gi_wp2_with fail
    refine ⟨trivial, (callsIn_wide.2 HCA.out).mono ?_⟩
    rintro e W ⟨rfl, hm, hc⟩
    have HW := Lib.hid hw
    have HMM := Lib.hid hm
    have HCC := Lib.hid hc
    clear hw hm hc
    gi_wp2
    have hit := (HIT5.out.ext HX6.out).chg HCC.out HNE.out.1 HNE.out.2
    refine (show (∃ _, _) ∧ _ from ⟨⟨_, _, _, _, _, _, _, _, _, _, _, _, _, _, _, _, pre ++ post, dn ++ [⟨nl, ni, nt⟩], ⟨hit, HALL.out, ⟨_, HMM.out, ?_⟩, ?_, ?_⟩, rfl⟩, ?_⟩)
    · have := HOU.out.add HLO.out.nodup ⟨sl - nl, false⟩ 3 nt
      rw [List.map_append, ← List.append_assoc]
      exact this
    · exact ((HI.out.chg.trans (HC5.out.mono fun k _ h => .inr h)).trans (HX6.out.chg _)).trans (HCC.out.mono fun k _ h => .inl h)
    · refine HKC6.out.trans ⟨HCC.out.size, fun k cs t f hk _ => HCC.out.heap hk ?_⟩
      rintro rfl
      exact (HLO.out.ext HX6.out).notCells hk
    · show itLeft W R lv < itLeft wr R lv
      rw [hit.count, ← HIT5.out.count]
      exact HMEA.out
end Go.Proofs.Ytmopadnkjlodnaa
namespace Go.Proofs.Ytmopadnkjlodnaa
theorem bedB_bounds {x : Int} (h : isBedB x = true) : I64 x ∧ 0 ≤ wrt x ∧ wrt x ≤ 80 := by
  unfold isBedB at h
  simp only [Bool.or_eq_true, beq_iff_eq, Bool.and_eq_true] at h
  rcases h with (rfl | rfl) | ⟨h1, h2⟩
  · unfold I64; decide
  · unfold I64; decide
  · simp only [ins, out1, List.any_cons, List.any_nil, Bool.or_false, Bool.not_or, Bool.and_eq_true, Bool.not_eq_true', decide_eq_false_iff_not] at h1 h2
    refine ⟨?_, ?_⟩
    · unfold I64
      unfold fct at h1
      rcases Int.le_total 0 x with hx | hx
      · rw [Int.tdiv_eq_ediv_of_nonneg hx] at h1
        omega
      · have : x.tdiv 100 = -((-x) / 100) := by rw [← Int.tdiv_eq_ediv_of_nonneg (by omega), Int.neg_tdiv, Int.neg_neg]
        rw [this] at h1
        omega
    · unfold wrt
      have h3 : 0 ≤ fct x := by omega
      have h4 : 0 ≤ nmb x := by omega
      exact ⟨Int.mul_nonneg h3 h4, Int.le_trans (Int.mul_le_mul (by omega : fct x ≤ 4) (by omega : nmb x ≤ 20) h4 (by omega)) (by omega)⟩
theorem beds_bounds {beds : List Int} (h : bedsB beds = true) {x : Int} (hx : x = 0 ∨ x ∈ beds) : I64 x ∧ 0 ≤ wrt x ∧ wrt x ≤ 80 := by
  rcases hx with rfl | hx
  · unfold I64; decide
  · obtain ⟨i, hi, rfl⟩ := List.mem_iff_getElem.1 hx
    exact bedB_bounds (((bedsB_iff beds).1 h) i hi hi).1
theorem hit_bounds {gin gout left : Int} {inn : Bool} {x : Int} (hw : 0 ≤ wrt x) (hl : 0 ≤ left) : 0 ≤ (hitS gin gout left inn x).1 ∧ (hitS gin gout left inn x).1 ≤ left := by
  unfold hitS
  split
  · exact ⟨hl, Int.le_refl _⟩
  · split
    · exact ⟨Int.le_refl _, hl⟩
    · split
      · rename_i h
        show 0 ≤ left - wrt x ∧ left - wrt x ≤ left
        omega
      · exact ⟨hl, Int.le_refl _⟩
theorem lev_bounds {gin gout : Int} {beds : List Int} {s : Sd} (h : bedsB beds = true) (hs : 0 ≤ s.left) : ∀ k n, n ∈ levN gin gout beds s k → (0 ≤ n.left ∧ n.left ≤ s.left) ∧ 0 ≤ n.tried ∧ n.tried ≤ k
  | 0, n, hn => by
    unfold levN at hn
    rw [List.mem_singleton] at hn
    subst hn
    exact ⟨⟨hs, Int.le_refl _⟩, Int.le_refl _, Int.le_refl _⟩
  | k + 1, n, hn => by
    unfold levN at hn
    obtain ⟨m, hm, hn⟩ := List.mem_flatMap.1 hn
    obtain ⟨⟨h1, h2⟩, h3, h4⟩ := lev_bounds h hs k m hm
    unfold nxtN at hn
    obtain ⟨x, hx, hn⟩ := List.mem_flatMap.1 hn
    have hw := (beds_bounds h (List.mem_cons.1 hx)).2.1
    have hb := hit_bounds (gin := gin) (gout := gout) (inn := m.inn) hw h1
    have hf : 0 ≤ finI gin gout beds m.left m.inn ∧ finI gin gout beds m.left m.inn ≤ 1 := by unfold finI; split <;> decide
    unfold nxt1N at hn
    split at hn
    · cases hn
    · split at hn
      · cases hn
      · rw [List.mem_singleton] at hn
        subst hn
        unfold triN
        simp only
        omega
end Go.Proofs.Ytmopadnkjlodnaa
namespace Go.Proofs.Ytmopadnkjlodnaa
open Go.RowKit Go.BigFrame
attribute [local go_sem] Oper.semAt_some Later.cell Later.frozen Lat.cell Lat.frozen NoX run_makeMap_plain
/-- A map that holds the extents of all visits from a stand. -/
def GoodM (gin gout : Int) (beds : List Int) (w : World) (n : Nat) (s : Sd) : Prop := ∃ l, MapL Gl.agg Ex.agg w n l ∧ OutR l (outS gin gout beds s)
theorem GoodM.chg {gin gout : Int} {beds : List Int} {S : Nat → Prop} {w w' : World} {n : Nat} {s : Sd} (h : GoodM gin gout beds w n s) (hx : Chg S w w') (hs : ¬ S n) : GoodM gin gout beds w' n s := let ⟨l, h1, h2⟩ := h; ⟨l, h1.chg hx hs, h2⟩
theorem GoodM.lt {gin gout : Int} {beds : List Int} {w : World} {n : Nat} {s : Sd} (h : GoodM gin gout beds w n s) : n < w.heap.size := let ⟨_, h1, _⟩ := h; h1.lt
/-- What was found is right. -/
structure FoundM (gin gout : Int) (beds : List Int) (w : World) (bf : Nat) (fl : List (Sd × Nat)) : Prop where
  map : MapL Sd.agg mpK w bf fl
  good : ∀ x ∈ fl, GoodM gin gout beds w x.2 x.1 ∧ x.2 ≠ bf
theorem FoundM.ext {gin gout : Int} {beds : List Int} {w w' : World} {bf : Nat} {fl : List (Sd × Nat)} (h : FoundM gin gout beds w bf fl) (hx : Ext w w') : FoundM gin gout beds w' bf fl :=
  ⟨h.map.ext hx, fun x hm => ⟨(h.good x hm).1.chg (hx.chg S0) (fun e => e), (h.good x hm).2⟩⟩
/-- One more is found. -/
theorem FoundM.put {gin gout : Int} {beds : List Int} {w wa W : World} {bf n : Nat} {fl : List (Sd × Nat)} {s : Sd} (h : FoundM gin gout beds w bf fl) (hx : Chg S0 w wa) (hc : Chg (· = bf) wa W) (hm : MapL Sd.agg mpK W bf (putL fl s n)) (hg : GoodM gin gout beds wa n s) (hn : n ≠ bf) : FoundM gin gout beds W bf (putL fl s n) :=
  ⟨hm, fun x hx' => by
    rcases (mem_put h.map.nodup s n x).1 hx' with rfl | ⟨h1, -⟩
    · exact ⟨hg.chg hc (fun e => hn e), hn⟩
    · have := h.good x h1
      exact ⟨(this.1.chg hx (fun e => e)).chg hc (fun e => this.2 e), this.2⟩⟩
theorem Chg.far {S T : Nat → Prop} {a b c : World} (h : Chg S a b) (k : Chg T b c) (hT : ∀ j, T j → S j ∨ a.heap.size ≤ j) : Chg S a c :=
  ⟨k.os.trans h.os, k.tape.trans h.tape, k.output.trans h.output, Nat.le_trans h.size k.size, fun i hi hs => (k.block i (Nat.lt_of_lt_of_le hi h.size) (fun e => by rcases hT i e with e | e; exact hs e; omega)).trans (h.block i hi hs)⟩
theorem FoundM.shut {gin gout : Int} {beds : List Int} {w w' : World} {bf lo : Nat} {fl : List (Sd × Nat)} (h : FoundM gin gout beds w bf fl) (hx : Shut lo w w') : FoundM gin gout beds w' bf fl :=
  ⟨hx.map h.map, fun x hm => ⟨let ⟨l, h1, h2⟩ := (h.good x hm).1; ⟨l, hx.map h1, h2⟩, (h.good x hm).2⟩⟩
set_option maxRecDepth 100000 in
set_option maxHeartbeats 8000000 in
theorem mean_from (start gin gout : Int) (beds : List Int) (ba : Option Addr) (bc kb bf : Nat) (fl : List (Sd × Nat)) (s : Sd) (w : World) (hb : Blk w kb #[.int .i64 start, .int .i64 gin, .int .i64 gout, .slice ba beds.length bc, .map (some bf)]) (hR : RdI S0 w (.slice ba beds.length bc) beds)
    (hl : beds.length ≤ 100) (hB : bedsB beds = true) (hs : 0 ≤ s.left ∧ s.left ≤ 2000) (hf : FoundM gin gout beds w bf fl) :
    Calls Try.prog 77 #[.pointer (some ⟨kb, 0, none⟩), s.agg] w fun e w' => ∃ n fl', e = .returned (.map (some n)) ∧ FoundM gin gout beds w' bf fl' ∧ GoodM gin gout beds w' n s ∧ (∀ y ∈ fl', y ∈ fl ∨ w.heap.size ≤ y.2) ∧ Chg (· = bf) w w' := by
  refine (callsIn_wide (n := 8)).1 ?_
  have HB := Lib.hid hb
  have HR := Lib.hid hR
  have HBD := Lib.hid hB
  have HF := Lib.hid hf
  have HLB := Lib.hid hl
  have hbf := hf.map.lt
  have hbk := hb.lt
  have HSL := Lib.hid hs
  have HLK : Hid (∀ W, MapL Sd.agg mpK W bf fl → (Instr.lookup 154 (.map (some bf)) (.agg #[.int .i64 s.left, .bool s.inn]) true).run Try.prog W = .ok (.tuple #[((lookL fl s).map mpK).getD (.map none), .bool (lookL fl s).isSome]) W) := Lib.hid (fun W hW => (run_look keyL_stand under_found hW trivial (zero_out W) s).2)
  obtain ⟨sl, si⟩ := s
  unfold Sd.agg
  simp only at HLK HSL ⊢
  clear hb hR hB hf hl hs
  refine callsIn_of_wp_marks Try.func77 rfl trivial ?_ rfl
  simp only [Try.ntmps77, List.size_toArray, List.length_cons, List.length_nil, Nat.reduceAdd, Nat.reduceSub, Array.replicate_succ, Array.replicate_zero, List.push_toArray, List.append_toArray, List.nil_append, List.cons_append]
  gi_upto_region 1 with fail
  obtain ⟨w1, hw1⟩ : ∃ y, y = (w.alloc (.cells #[.pointer (some ⟨kb, 0, none⟩)] 104)).alloc (.cells #[.int .i64 sl, .bool si] 119) := ⟨_, rfl⟩
  rw [← hw1]
  have hx1 : Ext w w1 := by rw [hw1]; exact ((Ext.refl w).alloc _).alloc _
  have HP1 : Hid (Blk w1 w.heap.size #[.pointer (some ⟨kb, 0, none⟩)]) := Lib.hid (by rw [hw1]; exact (Blk.new w _ _).alloc _)
  have HS1 : Hid (Blk w1 (w.heap.size + 1) #[.int .i64 sl, .bool si]) := Lib.hid (by rw [hw1]; exact Blk.at _ (by simp))
  have HX1 := Lib.hid hx1
  have HB1 := Lib.hid (HB.out.ext hx1)
  have hlk : ∀ y : Lat NoX w1, (Instr.lookup 154 (.map (some bf)) (.agg #[.int .i64 sl, .bool si]) true).run Try.prog y.world = .ok (.tuple #[((lookL fl ⟨sl, si⟩).map mpK).getD (.map none), .bool (lookL fl ⟨sl, si⟩).isSome]) y.world := fun y => HLK.out _ (HF.out.map.ext (hx1.trans (Lat.ext0 y)))
  clear hw1 hx1
  have m0 : ∀ y : Lat NoX w1, y.world.cell? ⟨w.heap.size, 0, none⟩ = some (.pointer (some ⟨kb, 0, none⟩)) := fun y => (HP1.out.ext (Lat.ext0 y)).cell 0 rfl
  have n0 : ∀ y : Lat NoX w1, y.world.cell? ⟨(w.heap.size + 1), 0, none⟩ = some (.int .i64 sl) := fun y => (HS1.out.ext (Lat.ext0 y)).cell 0 rfl
  have n1 : ∀ y : Lat NoX w1, y.world.cell? ⟨(w.heap.size + 1), 1, none⟩ = some (.bool si) := fun y => (HS1.out.ext (Lat.ext0 y)).cell 1 rfl
  have q0 : ∀ y : Lat NoX w1, y.world.cell? ⟨kb, 0, none⟩ = some (.int .i64 start) := fun y => (HB1.out.ext (Lat.ext0 y)).cell 0 rfl
  have q1 : ∀ y : Lat NoX w1, y.world.cell? ⟨kb, 1, none⟩ = some (.int .i64 gin) := fun y => (HB1.out.ext (Lat.ext0 y)).cell 1 rfl
  have q2 : ∀ y : Lat NoX w1, y.world.cell? ⟨kb, 2, none⟩ = some (.int .i64 gout) := fun y => (HB1.out.ext (Lat.ext0 y)).cell 2 rfl
  have q3 : ∀ y : Lat NoX w1, y.world.cell? ⟨kb, 3, none⟩ = some (.slice ba beds.length bc) := fun y => (HB1.out.ext (Lat.ext0 y)).cell 3 rfl
  have q4 : ∀ y : Lat NoX w1, y.world.cell? ⟨kb, 4, none⟩ = some (.map (some bf)) := fun y => (HB1.out.ext (Lat.ext0 y)).cell 4 rfl
  cases hlke : lookL fl ⟨sl, si⟩ with
  | some n =>
    have HLKE := Lib.hid (lookL_mem hlke)
    rw [hlke] at hlk
    simp only [Option.map_some, Option.getD_some, Option.isSome_some, mpK] at hlk
    clear hlke
    refine wpIn_region_lat (by kernel_rfl) (by kernel_rfl) ?_
    intro T hT hne2
    repeat (go_big_quiet_step (fail))
    refine wpQuiet_nil ?_
    intro w2 hx2
    have HX2 := Lib.hid (HX1.out.trans hx2)
    clear hlk m0 n0 n1 q0 q1 q2 q3 q4 hT hne2
    gi_wp2
    refine ret_m (v := .map (some n)) rfl (by simp [results, Try.results77, go_sem]) ⟨n, fl, rfl, HF.out.ext HX2.out, ?_, fun y hy => .inl hy, HX2.out.chg _⟩
    exact ((HF.out.good _ HLKE.out).1).chg (HX2.out.chg S0) (fun e => e)
  | none =>
    rw [hlke] at hlk
    simp only [Option.map_none, Option.getD_none, Option.isSome_none] at hlk
    clear hlke
    refine wpIn_region_lat (by kernel_rfl) (by kernel_rfl) ?_
    intro T hT hne2
    repeat (go_big_quiet_step (fail))
    refine wpQuiet_nil ?_
    intro w2 hx2
    have HX2 := Lib.hid (HX1.out.trans hx2)
    clear hlk m0 n0 n1 q0 q1 q2 q3 q4 hT hne2
    gi_upto_region 6 with fail
    generalize hw3 : World.alloc (World.alloc (World.alloc w2 _) _) _ = w3
    obtain ⟨bo, hbo⟩ : ∃ y, y = w2.heap.size := ⟨_, rfl⟩
    rw [← hbo] at hw3 ⊢
    have hx3 : Ext w2 w3 := by rw [← hw3]; exact (((Ext.refl w2).alloc _).alloc _).alloc _
    have hs3 : w3.heap.size = bo + 1 + 1 + 1 := by rw [← hw3]; simp [hbo]
    have HMO : Hid (MapL Gl.agg Ex.agg w3 bo []) := Lib.hid (by
      have h0 : MapL Gl.agg Ex.agg (w2.alloc (.map #[] 0)) w2.heap.size ([] : List (Gl × Ex)) := MapL.made _
      rw [← hbo] at h0
      rw [← hw3]
      exact h0.ext (((Ext.refl _).alloc _).alloc _))
    have HO7 : Hid (Blk w3 (bo + 1) #[.map (some bo)]) := Lib.hid (by rw [← hw3]; exact (Blk.at _ (by simp [hbo])).alloc _)
    have HK8 : Hid (Blk w3 (bo + 1 + 1) #[.func (.func 94) #[] #[.pointer (some ⟨bo + 1, 0, none⟩)]]) := Lib.hid (by rw [← hw3]; exact Blk.at _ (by simp [hbo]))
    have HBO := Lib.hid hbo
    have HSZ3 := Lib.hid hs3
    have HX3 := Lib.hid (HX2.out.trans hx3)
    have HP3 := Lib.hid (HP1.out.ext (hx2.trans hx3))
    have HS3 := Lib.hid (HS1.out.ext (hx2.trans hx3))
    have HXB := Lib.hid hx3
    clear hw3 hbo hx3 hs3 hx2
    have hm0 : MapL Nw.agg Yes.val (w3.alloc (.map #[] 0)) w3.heap.size ([] : List (Nw × Yes)) := MapL.made _
    obtain ⟨w5, hrun, hm5, hc5⟩ := run_put (P := Try.prog) keyL_now under_level hm0 trivial ⟨sl, si, 0⟩ .yes
    unfold Nw.agg Yes.val at hrun
    simp only at hrun
    have HM5 := Lib.hid hm5
    have HC5 := Lib.hid hc5
    clear hm0 hm5 hc5
    have sx0 := HS3.out.cell 0 (v := .int .i64 sl) rfl
    have sx1 := HS3.out.cell 1 (v := .bool si) rfl
    have sxl := HS3.out.lt
    gi_wp2
    have HK35 : Hid (Kc S0 w3 w5) := Lib.hid (by
      have hc := HC5.out
      refine Kc.trans (Kc.of_ext ((Ext.refl w3).alloc (.map #[] 0))) ⟨hc.size, fun k cs t f hk _ => hc.heap hk ?_⟩
      rintro rfl
      exact (MapL.made (ek := Nw.agg) (ev := Yes.val) w3).notCells hk)
    have HK5 := Lib.hid ((Kc.of_ext (S := S0) HX3.out).trans HK35.out)
    have HZ5 : Hid (w3.heap.size < w5.heap.size) := Lib.hid (by have := HC5.out.size; simp at this; omega)
    have HW0 : Hid (Chg S0 w w5) := Lib.hid ((((HX3.out.alloc (.map #[] 0)).chg S0)).far HC5.out (fun j hj => .inr (by rw [show j = w3.heap.size from hj]; exact HX3.out.size)))
    have HLW := Lib.hid (lev_bounds (gin := gin) (gout := gout) (s := ⟨sl, si⟩) HBD.out HSL.out.1)
    refine from_darts _ (by kernel_rfl) _ start gin gout ⟨sl, si⟩ beds bc ba bf w.heap.size kb (w.heap.size + 1) (bo + 1) (bo + 1 + 1) bo w3.heap.size w.heap.size [] w5 _ _ _ _ _ _ _ _ _ _ _ _ _ _ _ _ _ _ _ _ _ _ _ _ _ _ _ _ _ _ _ _ _ _ _ _ _ _ _ _ _ _ _ _ _ _ _ _ _ _ _ _ _ _ _ _ _ _ _ _ _ _ _ _ _ _ _ _ _ _ _ _ _ _ _ _ _ _ _ _ _ _ _ _ _ _ _ _ _ _ _ _ _ _ _ _ _ _ _ _ _ _ _ _ _ _ _ _ _ _ _ _ _ _ _ _
      (HK35.out.blk HP3.out id) (HK5.out.blk HB.out id) (HR.out.keep HK5.out) (HK35.out.blk HS3.out id) (HK35.out.blk HO7.out id) (HK35.out.blk HK8.out id) ?hI HW0.out.size ?hx HLB.out ?hQ
    case hI =>
      refine ⟨⟨[], (HMO.out.ext ((Ext.refl w3).alloc _)).chg HC5.out ?_, OutR.nil⟩, ⟨_, HM5.out, ?_⟩, ?_, Chg.refl _ _, Kc.refl _ _, Marks.nil _ _⟩
      · have := HSZ3.out
        show ¬ bo = w3.heap.size
        omega
      · intro n
        rfl
      · have := HSZ3.out
        omega
    case hx =>
      intro k hk n hn
      have h1 := HLW.out k n hn
      have h2 := HSL.out
      simp only at h1 h2
      refine ⟨fun x hx => ?_, by omega⟩
      have h3 := beds_bounds HBD.out hx
      exact ⟨h3.1, by unfold I64; omega⟩
    case hQ =>
      intro W lv dsn i x10 x11 x12 x13 x36 x37 x38 x39 x40 x41 x42 x43 x44 x45 x46 x47 x48 x49 x50 x51 x52 x53 x54 x55 x56 x57 x58 x59 x95 x96 hI
      have HI := Lib.hid hI
      clear hI hrun
      rename_i K0 a0
      refine a0 _ _ ?_
      dsimp only
      obtain ⟨ll, hll, hlm⟩ := HI.out.lev
      obtain ⟨lo, hlo, hou⟩ := HI.out.out
      obtain ⟨ob, hrun, hit⟩ := run_rangeL (P := Try.prog) under_level hll
      obtain ⟨W1, hW1⟩ : ∃ y, y = W.alloc ob := ⟨_, rfl⟩
      rw [← hW1] at hrun hit
      have hX1 : Ext W W1 := by rw [hW1]; exact (Ext.refl W).alloc ob
      obtain ⟨R, hR'⟩ : ∃ y, y = W.heap.size := ⟨_, rfl⟩
      rw [← hR'] at hrun hit
      have HIT := Lib.hid hit
      have HX1' := Lib.hid hX1
      have HLO := Lib.hid (hlo.ext hX1)
      have HOU := Lib.hid hou
      have HLM := Lib.hid hlm
      have HRR := Lib.hid hR'
      have HBL := Lib.hid (And.intro hlo.lt hll.lt)
      clear hll hlo hou hlm hX1 hW1 hit hR'
      gi_wp2
      clear hrun
      have HKW := Lib.hid ((HK35.out.trans HI.out.kc).ext HX1'.out)
      refine from_last _ (by kernel_rfl) _ ⟨sl, si⟩ (w.heap.size + 1) (bo + 1) (bo + 1 + 1) bo R lv (outTo gin gout beds ⟨sl, si⟩ 3) (levN gin gout beds ⟨sl, si⟩ 3) ll (dsn.map markOf) W1 _ _ _ _ _ _ _ _ _ _ _ _ _ _ _ _ _ _ _ _ _ _ _ _ _ _ _ _ _ _ _ _ _ _ _ _ _ _ _ _ _ _ _ _ _ _ _ _ _ _ _ _ _ _ _ _ _ _ _ _ _ _ _ _ _ _ _ _ _ _ _ _ _ _ _ _ _ _ _ _ _ _ _ _ _ _ _ _ _ _ _ _ _ _ _ _ _ _ _ _ _ _ _ _ _ _ _ _ _ _ _ _ _ _ _ _ _ _
        (HKW.out.blk HS3.out id) (HKW.out.blk HO7.out id) (HKW.out.blk HK8.out id) ⟨HIT.out, by simpa using HLM.out, ⟨lo, HLO.out, by simpa using HOU.out⟩, Chg.refl _ _, Kc.refl _ _⟩ ⟨?hR, fun e => HI.out.ne e.symm⟩ ?hx2 ?hQ2
      case hR =>
        have h1 := HBL.out.1
        have h2 := HRR.out
        omega
      case hx2 =>
        intro n hn
        have h1 : (0 ≤ n.left ∧ n.left ≤ sl) ∧ _ := HLW.out 3 n hn
        have h2 := HSL.out
        show I64 (sl - n.left)
        unfold I64
        omega
      case hQ2 =>
        intro W2 z17 z99 z100 z101 z102 z103 z104 z105 z106 z107 z108 z109 z110 z111 z112 z113 hout hchg hkc
        have HOUT := Lib.hid hout
        have HCH := Lib.hid hchg
        have HKW2 := Lib.hid (HKW.out.trans hkc)
        have HKW3 := Lib.hid (((HK5.out.trans HI.out.kc).ext HX1'.out).trans hkc)
        clear hout hchg hkc
        rename_i K1 a1
        refine a1 _ _ ?_
        dsimp only
        gi_upto_region 30 with fail
        have hnb : bo ≠ bf := by
          have h1 := HBO.out
          have h2 := HX2.out.size
          omega
        have HBF : Hid (FoundM gin gout beds w bf fl) := HF
        have HCW : Hid (Chg S0 w W2) := Lib.hid (by
          have h1 := HI.out.chg
          have hw2 : w.heap.size ≤ bo := by rw [HBO.out]; exact HX2.out.size
          refine ((HW0.out.far h1 (fun j hj => .inr (by rw [show j = bo from hj]; exact hw2))).ext' HX1'.out).far HCH.out ?_
          have h3 := HRR.out
          have h4 := (HW0.out.far h1 (fun j hj => .inr (by rw [show j = bo from hj]; exact hw2))).size
          rintro j (rfl | rfl)
          · exact .inr hw2
          · exact .inr (by omega))
        have HMK : Hid (Marks w.heap.size W2 dsn) := Lib.hid (by
          have hm := HI.out.marks
          refine (hm.chg (S := S0) (HX1'.out.chg _) (fun _ _ h => h)).chg HCH.out ?_
          intro D' hD
          have h1 := (hm.all D' hD).2
          rintro (e | e)
          · obtain ⟨lo', h2, -⟩ := HI.out.out
            obtain ⟨_, _, h3, -⟩ := h2.ex
            rw [e] at h1
            rw [h1] at h3
            cases h3
          · have h2 := (Array.getElem?_eq_some_iff.1 h1).1
            have h3 := HRR.out
            omega)
        have kY : ∀ {b cs}, Blk W2 b cs → b ≠ bf → ∀ y : Lat (fun b _ => b = bf) W2, Blk y.world b cs := fun h hb y => h.chg y.chg (by rintro ⟨_, e⟩; exact hb e)
        have nB2 : w.heap.size ≠ bf := by omega
        have nS3 : w.heap.size + 1 ≠ bf := by omega
        have nkb : kb ≠ bf := by
          rintro rfl
          obtain ⟨t, ht⟩ := HB.out
          exact HF.out.map.notCells ht
        have nO7 : bo + 1 ≠ bf := by
          have h1 := HBO.out
          have h2 := HX2.out.size
          omega
        have lB2 := (HKW2.out.blk HP3.out id).lt
        have lS3 := (HKW2.out.blk HS3.out id).lt
        have lkb := (HKW3.out.blk HB.out id).lt
        have lO7 := (HKW2.out.blk HO7.out id).lt
        have y0 := fun y => (kY (HKW2.out.blk HP3.out id) nB2 y).cell 0 (v := .pointer (some ⟨kb, 0, none⟩)) rfl
        have y1 := fun y => (kY (HKW2.out.blk HS3.out id) nS3 y).cell 0 (v := .int .i64 sl) rfl
        have y2 := fun y => (kY (HKW2.out.blk HS3.out id) nS3 y).cell 1 (v := .bool si) rfl
        have y3 := fun y => (kY (HKW3.out.blk HB.out id) nkb y).cell 4 (v := .map (some bf)) rfl
        have y4 := fun y => (kY (HKW2.out.blk HO7.out id) nO7 y).cell 0 (v := .map (some bo)) rfl
        have HO7Y := Lib.hid (fun y => kY (HKW2.out.blk HO7.out id) nO7 y)
        have HMB := Lib.hid (HF.out.map.chg HCW.out (fun e => e))
        clear kY
        have hk6 : ∀ k : Nat, (k == 6) = true → k < 7 := by
          intro k hk
          have : k = 6 := by simpa using hk
          omega
        refine wpIn_lat (by kernel_rfl) (fun b _ => b = bf) (fun k => k == 6) (fun _ _ => True) (fun L _ W => bif L 6 then MapL Sd.agg mpK W bf (putL fl ⟨sl, si⟩ bo) else MapL Sd.agg mpK W bf fl) (by kernel_rfl) (fun k hk => hk6 k hk)
          (fun L L' u w' h hg => by have e := h 6 rfl; show (bif L' 6 then _ else _); rw [e]; exact hg) (fun L u a b h hx => by revert h; show (bif L 6 then _ else _) → (bif L 6 then _ else _); cases L 6 <;> exact fun h => MapL.ext h hx) (fun _ => undef) (fun _ _ => trivial) (HMB.out.ext (Ext.refl W2).drew) ?_
        intro T hT hne2 u hu
        clear hu
        refine lx_next 6 (by rfl) (by decide) ?_
        dsimp only [List.take, List.drop]
        repeat (go_big_quiet_step (fail))
        refine wpQuiet_nil ?_
        refine lx_loud (by rfl) (by kernel_rfl) ?_ (fun K hK => ?_)
        · intro L w4 hL hd hcl hC hs
          obtain ⟨y, rfl⟩ := hC
          simp only [hL, cond_false] at hs
          obtain ⟨w', hrun, hm', hc'⟩ := run_put (P := Try.prog) keyL_stand under_found hs trivial ⟨sl, si⟩ bo
          unfold Sd.agg mpK at hrun
          simp only at hrun
          have HM' := Lib.hid hm'
          have HC' := Lib.hid hc'
          clear hs hm' hc'
          go_wp2
          exact ⟨⟨y.chgd HC'.out (fun k hk => .inr fun _ => hk), rfl⟩, by simpa [upd] using HM'.out⟩
        go_simp
        with_reducible refine hK _ ?_
        clear hK K
        refine lx_nil ?_
        intro y hs
        simp only [cond_true] at hs
        have HWY : Hid (Chg (· = bf) W2 y.world) := Lib.hid (y.chg.mono (by rintro q - ⟨_, e⟩; exact e))
        have HGW : Hid (GoodM gin gout beds W2 bo ⟨sl, si⟩) := Lib.hid (let ⟨lo3, m1, m2⟩ := HOUT.out; ⟨lo3, m1, m2⟩)
        have HFY := Lib.hid (HF.out.put HCW.out HWY.out hs HGW.out hnb)
        have HGY := Lib.hid (HGW.out.chg HWY.out hnb)
        have HMY : Hid (Marks w.heap.size y.world dsn) := Lib.hid (HMK.out.chg HWY.out (fun D' hD e => by
          have := (HMK.out.all D' hD).1
          have e' : D' = bf := e
          omega))
        have HCY : Hid (Chg (· = bf) w y.world) := Lib.hid ((HCW.out.mono (fun _ _ h => h.elim)).trans HWY.out)
        have c7 := (HO7Y.out y).cell 0 (v := .map (some bo)) rfl
        have l7 := (HO7Y.out y).lt
        clear hs y0 y1 y2 y3 y4 hT hne2 lB2 lS3 lkb lO7
        generalize y.world = w9 at *
        gi_wp2
        show LeavesInM _ _ _ _ _ _ (dsn.map markOf) .returning _
        refine ret_mN (v := .map (some bo)) (lo := w.heap.size) (w := w9) dsn w9 .refl HMY.out ?_
        intro W' hsh
        refine ⟨by simp [results, Try.results77, go_sem], bo, _, rfl, HFY.out.shut hsh, ?_, fun y hy => ?_, hsh.chg HCY.out (Nat.le_refl _)⟩
        · obtain ⟨l9, h1, h2⟩ := HGY.out
          exact ⟨l9, hsh.map h1, h2⟩
        · rcases (mem_put HF.out.map.nodup ⟨sl, si⟩ bo y).1 hy with rfl | ⟨h1, -⟩
          · exact .inr (by have h1 := HBO.out; have h2 := HX2.out.size; show w.heap.size ≤ bo; omega)
          · exact .inl h1
end Go.Proofs.Ytmopadnkjlodnaa
