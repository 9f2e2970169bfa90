/-
  Package mean: visits of three darts that end nothing (the last loop of from).
-/
import Derived.Test.YtmopadnkjlodnaaMfu
namespace Go.Proofs.Ytmopadnkjlodnaa
open Go.RowKit Go.BigFrame
attribute [local go_sem] Oper.semAt_some Later.cell Later.frozen Lat.cell Lat.frozen NoX
def endO (s : Sd) (n : Nw) : Oc := ⟨⟨s.left - n.left, false⟩, 3, n.tried⟩
/-- What stands between two rounds of the last loop. -/
structure LsI (w : World) (bo R lv : Nat) (D : List Oc) (LV : List Nw) (fo : Nw → Oc) (W : World) (left : List (Nw × Yes)) (dn : List Nw) : Prop where
  it : IterL Nw.agg Yes.val W R lv left
  all : ∀ k, k ∈ LV ↔ k ∈ dn ∨ k ∈ left.map (·.1)
  out : ∃ lo, MapL Gl.agg Ex.agg W bo lo ∧ OutR lo (D ++ dn.map fo)
  chg : Chg (fun k => k = bo ∨ k = R) w W
  kc : Kc S0 w W
set_option maxRecDepth 100000 in
set_option maxHeartbeats 8000000 in
theorem from_last (c : Code) (hc : codeBlk 7 (Try.f77.body.getD .skip) = some (.block 7 c)) (Q : Exit → Act → World → Prop) (s : Sd) (S3 O7 K8 bo R lv : Nat) (D : List Oc) (LV : List Nw) (left0 : List (Nw × Yes)) (ds : List Deferred) (w : World) (g0 g1 g2 g4 g5 g6 g7 g9 g10 g11 g12 g13 g14 g15 g16 g17 g18 g19 g20 g21 g22 g23 g24 g25 g26 g27 g28 g29 g30 g31 g32 g33 g34 g35 g36 g37 g38 g39 g40 g41 g42 g43 g44 g45 g46 g47 g48 g49 g50 g51 g52 g53 g54 g55 g56 g57 g58 g59 g60 g61 g62 g63 g64 g65 g66 g67 g68 g69 g70 g71 g72 g73 g74 g75 g76 g77 g78 g79 g80 g81 g82 g83 g84 g85 g86 g87 g88 g89 g90 g91 g92 g93 g94 g95 g96 g97 g99 g100 g101 g102 g103 g104 g105 g106 g107 g108 g109 g110 g111 g112 g113 g114 g115 g116 g117 g118 g119 g120 : Value)
    (hS : Blk w S3 #[.int .i64 s.left, .bool s.inn]) (hO : Blk w O7 #[.map (some bo)]) (h8 : Blk w K8 #[.func (.func 94) #[] #[.pointer (some ⟨O7, 0, none⟩)]]) (hI : LsI w bo R lv D LV (endO s) w left0 []) (hne : R ≠ bo ∧ lv ≠ bo) (hx : ∀ n ∈ LV, I64 (s.left - n.left))
    (hQ : ∀ (W : World) (x17 x99 x100 x101 x102 x103 x104 x105 x106 x107 x108 x109 x110 x111 x112 x113 : Value), (∃ lo, MapL Gl.agg Ex.agg W bo lo ∧ OutR lo (D ++ LV.map (endO s))) → Chg (fun k => k = bo ∨ k = R) w W → Kc S0 w W → Q (.exit 7) { tmps := #[g0, g1, g2, .pointer (some ⟨S3, 0, none⟩), g4, g5, g6, g7, .pointer (some ⟨K8, 0, none⟩), g9, g10, g11, g12, g13, g14, g15, g16, x17, g18, g19, g20, g21, g22, g23, g24, g25, g26, g27, g28, g29, g30, g31, g32, g33, g34, g35, g36, g37, g38, g39, g40, g41, g42, g43, g44, g45, g46, g47, g48, g49, g50, g51, g52, g53, g54, g55, g56, g57, g58, g59, g60, g61, g62, g63, g64, g65, g66, g67, g68, g69, g70, g71, g72, g73, g74, g75, g76, g77, g78, g79, g80, g81, g82, g83, g84, g85, g86, g87, g88, g89, g90, g91, g92, g93, g94, g95, g96, g97, .pointer (some ⟨R, 0, none⟩), x99, x100, x101, x102, x103, x104, x105, x106, x107, x108, x109, x110, x111, x112, x113, g114, g115, g116, g117, g118, g119, g120], defers := ds } W) :
    c.wpIn Fence.wide 8 Try.prog Q { tmps := #[g0, g1, g2, .pointer (some ⟨S3, 0, none⟩), g4, g5, g6, g7, .pointer (some ⟨K8, 0, none⟩), g9, g10, g11, g12, g13, g14, g15, g16, g17, g18, g19, g20, g21, g22, g23, g24, g25, g26, g27, g28, g29, g30, g31, g32, g33, g34, g35, g36, g37, g38, g39, g40, g41, g42, g43, g44, g45, g46, g47, g48, g49, g50, g51, g52, g53, g54, g55, g56, g57, g58, g59, g60, g61, g62, g63, g64, g65, g66, g67, g68, g69, g70, g71, g72, g73, g74, g75, g76, g77, g78, g79, g80, g81, g82, g83, g84, g85, g86, g87, g88, g89, g90, g91, g92, g93, g94, g95, g96, g97, .pointer (some ⟨R, 0, none⟩), g99, g100, g101, g102, g103, g104, g105, g106, g107, g108, g109, g110, g111, g112, g113, g114, g115, g116, g117, g118, g119, g120], defers := ds } w := by
  simp only [Try.f77, Option.getD_some, codeBlk, ↓reduceIte, Nat.reduceEqDiff, Option.some.injEq, Code.block.injEq, true_and] at hc
  subst hc
  have HS := Lib.hid hS
  have HO := Lib.hid hO
  have H8 := Lib.hid h8
  have HQ := Lib.hid hQ
  have HX := Lib.hid hx
  have HI0 := Lib.hid hI
  have HNE := Lib.hid hne
  obtain ⟨sl, si⟩ := s
  simp only at HS
  clear hQ hS hO h8 hx hI hne
  refine wpIn_loop (fun a' W => ∃ (x17 x99 x100 x101 x102 x103 x104 x105 x106 x107 x108 x109 x110 x111 x112 x113 : Value) (left : List (Nw × Yes)) (dn : List Nw), LsI w bo R lv D LV (endO ⟨sl, si⟩) W left dn ∧ a' = { tmps := #[g0, g1, g2, .pointer (some ⟨S3, 0, none⟩), g4, g5, g6, g7, .pointer (some ⟨K8, 0, none⟩), g9, g10, g11, g12, g13, g14, g15, g16, x17, g18, g19, g20, g21, g22, g23, g24, g25, g26, g27, g28, g29, g30, g31, g32, g33, g34, g35, g36, g37, g38, g39, g40, g41, g42, g43, g44, g45, g46, g47, g48, g49, g50, g51, g52, g53, g54, g55, g56, g57, g58, g59, g60, g61, g62, g63, g64, g65, g66, g67, g68, g69, g70, g71, g72, g73, g74, g75, g76, g77, g78, g79, g80, g81, g82, g83, g84, g85, g86, g87, g88, g89, g90, g91, g92, g93, g94, g95, g96, g97, .pointer (some ⟨R, 0, none⟩), x99, x100, x101, x102, x103, x104, x105, x106, x107, x108, x109, x110, x111, x112, x113, g114, g115, g116, g117, g118, g119, g120], defers := ds }) (fun _ W => itLeft W R lv) ⟨g17, g99, g100, g101, g102, g103, g104, g105, g106, g107, g108, g109, g110, g111, g112, g113, left0, [], HI0.out, rfl⟩ ?_
  rintro a' wr ⟨x17, x99, x100, x101, x102, x103, x104, x105, x106, x107, x108, x109, x110, x111, x112, x113, left, dn, hI, rfl⟩
  have HI := Lib.hid hI
  clear hI
  dsimp only
  gi_wp2_with (gi_at_next; refine wpIn_nextL rfl _ rfl R lv left rfl HI.out.it ?_ ?_)
  · rintro rfl
    have HF : Hid (∃ lo, MapL Gl.agg Ex.agg wr bo lo ∧ OutR lo (D ++ LV.map (endO ⟨sl, si⟩))) := Lib.hid (by
      have hall := HI.out.all
      simp only [List.map_nil, List.not_mem_nil, or_false] at hall
      obtain ⟨lo, h1, h2⟩ := HI.out.out
      exact ⟨lo, h1, h2.congr (fun o => by simp only [List.mem_append, List.mem_map, hall])⟩)
    gi_wp2
    exact HQ.out wr _ _ _ _ _ _ _ _ _ _ _ _ _ _ _ _ HF.out HI.out.chg HI.out.kc
  · intro n y pre post w5 hsp hit5 hc5 hen
    obtain ⟨nl, ni, nt⟩ := n
    unfold Nw.agg Yes.val at hen
    simp only at hen
    have hmem : (⟨nl, ni, nt⟩ : Nw) ∈ LV := (HI.out.all _).2 (.inr (by rw [hsp]; simp))
    have hbd := HX.out _ hmem
    simp only at hbd
    have HBD := Lib.hid hbd
    have HALL : Hid (∀ k, k ∈ LV ↔ k ∈ dn ++ [(⟨nl, ni, nt⟩ : Nw)] ∨ k ∈ (pre ++ post).map (·.1)) := Lib.hid (fun k => by
      rw [HI.out.all, hsp]
      simp only [List.map_append, List.map_cons, List.mem_append, List.mem_cons, List.not_mem_nil, or_false]
      constructor
      · rintro (h | h | h | h)
        · exact .inl (.inl h)
        · exact .inr (.inl h)
        · exact .inl (.inr h)
        · exact .inr (.inr h)
      · rintro ((h | h) | (h | h))
        · exact .inl h
        · exact .inr (.inr (.inl h))
        · exact .inr (.inl h)
        · exact .inr (.inr (.inr h)))
    have HMEA : Hid (itLeft w5 R lv < itLeft wr R lv) := Lib.hid (by rw [HI.out.it.count, hit5.count, hsp]; simp)
    have HIT5 := Lib.hid hit5
    have HC5 := Lib.hid hc5
    have HKC5 : Hid (Kc S0 w w5) := Lib.hid (HI.out.kc.trans ⟨hc5.size, fun k cs t f hk _ => hc5.heap hk (by rintro rfl; exact HI.out.it.notCells.1 _ _ _ hk)⟩)
    obtain ⟨lo, hlo, hou⟩ := HI.out.out
    have HLO := Lib.hid (hlo.chg hc5 (fun e => HNE.out.1 e.symm))
    have HOU := Lib.hid hou
    clear hmem hbd hsp hit5 hc5 hlo hou
    gi_upto_region 29 with fail
    obtain ⟨w6, hw6⟩ : ∃ y, y = w5.alloc (.cells #[.int .i64 nl, .bool ni, .int .i64 nt] 127) := ⟨_, rfl⟩
    rw [← hw6]
    obtain ⟨K12, hk12⟩ : ∃ y, y = w5.heap.size := ⟨_, rfl⟩
    rw [← hk12]
    have hx6 : Ext w5 w6 := by rw [hw6]; exact (Ext.refl w5).alloc _
    have HB12 : Hid (Blk w6 K12 #[.int .i64 nl, .bool ni, .int .i64 nt]) := Lib.hid (by rw [hw6, hk12]; exact Blk.new _ _ _)
    have HX6 := Lib.hid hx6
    have HKC6 := Lib.hid (HKC5.out.ext hx6)
    clear hw6 hk12 hx6 hen
    have nx0 := HB12.out.cell 0 (v := .int .i64 nl) rfl
    have nx1 := HB12.out.cell 1 (v := .bool ni) rfl
    have nx2 := HB12.out.cell 2 (v := .int .i64 nt) rfl
    have nxl := HB12.out.lt
    have sx0 := (HKC6.out.blk HS.out id).cell 0 (v := .int .i64 sl) rfl
    have sx1 := (HKC6.out.blk HS.out id).cell 1 (v := .bool si) rfl
    have sxl := (HKC6.out.blk HS.out id).lt
    have cx0 := (HKC6.out.blk H8.out id).cell 0 (v := .func (.func 94) #[] #[.pointer (some ⟨O7, 0, none⟩)]) rfl
    have cxl := (HKC6.out.blk H8.out id).lt
    have HOO := Lib.hid ((HKC6.out.blk HO.out id).cell 0 (v := .map (some bo)) rfl)
    have HCA := Lib.hid (mean_from1 ⟨sl - nl, false⟩ 3 nt O7 bo lo w6 HOO.out (HLO.out.ext HX6.out))
    unfold Gl.agg at HCA
    simp only at HCA
    have hw : wrap64 (sl - nl) = sl - nl := wrap64_in' HBD.out
    gi_wp2_with fail
    refine ⟨trivial, (callsIn_wide.2 HCA.out).mono ?_⟩
    rintro e W ⟨rfl, hm, hc⟩
    have HW := Lib.hid hw
    have HMM := Lib.hid hm
    have HCC := Lib.hid hc
    clear hw hm hc
    gi_wp2
    have hit := (HIT5.out.ext HX6.out).chg HCC.out HNE.out.1 HNE.out.2
    refine (show (∃ _, _) ∧ _ from ⟨⟨_, _, _, _, _, _, _, _, _, _, _, _, _, _, _, _, pre ++ post, dn ++ [⟨nl, ni, nt⟩], ⟨hit, HALL.out, ⟨_, HMM.out, ?_⟩, ?_, ?_⟩, rfl⟩, ?_⟩)
    · have := HOU.out.add HLO.out.nodup ⟨sl - nl, false⟩ 3 nt
      rw [List.map_append, ← List.append_assoc]
      exact this
    · exact ((HI.out.chg.trans (HC5.out.mono fun k _ h => .inr h)).trans (HX6.out.chg _)).trans (HCC.out.mono fun k _ h => .inl h)
    · refine HKC6.out.trans ⟨HCC.out.size, fun k cs t f hk _ => HCC.out.heap hk ?_⟩
      rintro rfl
      exact (HLO.out.ext HX6.out).notCells hk
    · show itLeft W R lv < itLeft wr R lv
      rw [hit.count, ← HIT5.out.count]
      exact HMEA.out
end Go.Proofs.Ytmopadnkjlodnaa
