/-
  Package mean: all visits so far and their next dart (the loop over the level in from).
-/
import Derived.Test.YtmopadnkjlodnaaMfs
import Derived.Sort.MapsRangeIn
namespace Go.Proofs.Ytmopadnkjlodnaa
open Go.RowKit Go.BigFrame
attribute [local go_sem] Oper.semAt_some Later.cell Later.frozen Lat.cell Lat.frozen NoX
theorem Two.chg {S : Nat → Prop} {A B : World} {bo nx : Nat} {D : List Oc} {NX : List Nw} (h : Two A bo nx D NX) (hx : Chg S A B) (h1 : ¬ S bo) (h2 : ¬ S nx) : Two B bo nx D NX :=
  let ⟨lo, ln, m1, m2, m3, m4⟩ := h.ex; ⟨lo, ln, m1.chg hx h1, m2, m3.chg hx h2, m4⟩
theorem Two.kc {A B : World} {bo nx : Nat} {D : List Oc} {NX : List Nw} (h : Two A bo nx D NX) (hx : Chg (fun k => k = bo ∨ k = nx) A B) : Kc S0 A B :=
  let ⟨_, _, m1, _, m3, _⟩ := h.ex; ⟨hx.size, fun k cs t f hk _ => hx.heap hk (by rintro (rfl | rfl); exact m1.notCells hk; exact m3.notCells hk)⟩
theorem Two.ne {A : World} {bo nx D' : Nat} {D : List Oc} {NX : List Nw} (h : Two A bo nx D NX) {o : Option (List Deferred)} (hd : A.heap[D']? = some (.deferred o)) : D' ≠ bo ∧ D' ≠ nx := by
  obtain ⟨_, _, m1, _, m3, _⟩ := h.ex
  obtain ⟨_, _, e1, -⟩ := m1.ex
  obtain ⟨_, _, e2, -⟩ := m3.ex
  constructor <;> (rintro rfl; simp_all)
theorem IterL.notCells {κ ν : Type} {ek : κ → Value} {ev : ν → Value} {w : World} {r b : Nat} {l : List (κ × ν)} (h : IterL ek ev w r b l) : (∀ cs t f, w.heap[r]? ≠ some (.cells cs t f)) ∧ ∀ o, w.heap[r]? ≠ some (.deferred o) := by
  obtain ⟨_, _, _, h1, -⟩ := h.ex
  constructor <;> (intros; rw [h1]; intro e; cases e)
/-- What stands between two rounds of the loop over the level. -/
structure LvI (w : World) (bo nx R lv lo0 : Nat) (D : List Oc) (NX LV : List Nw) (fo : Nw → List Oc) (fx : Nw → List Nw) (W : World) (left : List (Nw × Yes)) (dn : List Nw) (dsn : List Nat) : Prop where
  it : IterL Nw.agg Yes.val W R lv left
  all : ∀ k, k ∈ LV ↔ k ∈ dn ∨ k ∈ left.map (·.1)
  two : Two W bo nx (D ++ dn.flatMap fo) (NX ++ dn.flatMap fx)
  chg : Chg (fun k => k = bo ∨ k = nx ∨ k = R) w W
  kc : Kc S0 w W
  marks : Marks lo0 W dsn
set_option maxRecDepth 100000 in
set_option maxHeartbeats 8000000 in
theorem from_level (c : Code) (hc : codeBlk 2 (Try.f77.body.getD .skip) = some (.block 2 c)) (Q : Exit → Act → World → Prop) (start gin gout : Int) (s : Sd) (dart : Nat) (beds : List Int) (bc : Nat) (ba : Option Addr) (bf B2 kb S3 O7 K8 K10 K11 bo nx R lv lo0 : Nat) (D : List Oc) (NX LV : List Nw) (left0 : List (Nw × Yes)) (dsn : List Nat) (w : World) (g0 g1 g4 g5 g6 g7 g9 g12 g13 g14 g15 g16 g17 g18 g19 g20 g21 g22 g23 g24 g25 g26 g27 g28 g29 g30 g31 g32 g33 g34 g35 g36 g37 g38 g39 g41 g42 g43 g44 g45 g46 g47 g48 g49 g50 g51 g52 g53 g54 g55 g56 g57 g58 g59 g60 g61 g62 g63 g64 g65 g66 g67 g68 g69 g70 g71 g72 g73 g74 g75 g76 g77 g78 g79 g80 g81 g82 g83 g84 g85 g86 g87 g88 g89 g90 g91 g92 g93 g94 g95 g96 g97 g98 g99 g100 g101 g102 g103 g104 g105 g106 g107 g108 g109 g110 g111 g112 g113 g114 g115 g116 g117 g118 g119 g120 : Value)
    (h2 : Blk w B2 #[.pointer (some ⟨kb, 0, none⟩)]) (hk : Blk w kb #[.int .i64 start, .int .i64 gin, .int .i64 gout, .slice ba beds.length bc, .map (some bf)]) (hR : RdI S0 w (.slice ba beds.length bc) beds) (hS : Blk w S3 #[.int .i64 s.left, .bool s.inn]) (hO : Blk w O7 #[.map (some bo)]) (h8 : Blk w K8 #[.func (.func 94) #[] #[.pointer (some ⟨O7, 0, none⟩)]])
    (h10 : Blk w K10 #[.int .i64 dart]) (h11 : Blk w K11 #[.map (some nx)]) (ht : Two w bo nx D NX) (hit : IterL Nw.agg Yes.val w R lv left0) (hlv : ∀ k, k ∈ LV ↔ k ∈ left0.map (·.1)) (hm : Marks lo0 w dsn) (hl0 : lo0 ≤ w.heap.size) (hne : bo ≠ nx ∧ R ≠ bo ∧ R ≠ nx ∧ lv ≠ bo ∧ lv ≠ nx) (hx : ∀ n ∈ LV, (∀ x, x = 0 ∨ x ∈ beds → I64 x ∧ I64 (n.left - wrt x)) ∧ 0 ≤ n.tried ∧ n.tried ≤ 100) (hd : dart ≤ 3) (hlen : beds.length ≤ 100)
    (hQ : ∀ (W : World) (dsn' : List Nat) (x12 x13 x41 x42 x43 x44 x45 x46 x47 x48 x49 x50 x51 x52 x53 x54 x55 x56 x57 x58 x59 : Value), Two W bo nx (D ++ LV.flatMap (outN gin gout beds s dart)) (NX ++ LV.flatMap (nxtN gin gout beds)) → Chg (fun k => k = bo ∨ k = nx ∨ k = R) w W → Kc S0 w W → Marks lo0 W dsn' → Q (.exit 2) { tmps := #[g0, g1, .pointer (some ⟨B2, 0, none⟩), .pointer (some ⟨S3, 0, none⟩), g4, g5, g6, g7, .pointer (some ⟨K8, 0, none⟩), g9, .pointer (some ⟨K10, 0, none⟩), .pointer (some ⟨K11, 0, none⟩), x12, x13, g14, g15, g16, g17, g18, g19, g20, g21, g22, g23, g24, g25, g26, g27, g28, g29, g30, g31, g32, g33, g34, g35, g36, g37, g38, g39, .pointer (some ⟨R, 0, none⟩), x41, x42, x43, x44, x45, x46, x47, x48, x49, x50, x51, x52, x53, x54, x55, x56, x57, x58, x59, g60, g61, g62, g63, g64, g65, g66, g67, g68, g69, g70, g71, g72, g73, g74, g75, g76, g77, g78, g79, g80, g81, g82, g83, g84, g85, g86, g87, g88, g89, g90, g91, g92, g93, g94, g95, g96, g97, g98, g99, g100, g101, g102, g103, g104, g105, g106, g107, g108, g109, g110, g111, g112, g113, g114, g115, g116, g117, g118, g119, g120], defers := dsn'.map markOf } W) :
    c.wpIn Fence.wide 8 Try.prog Q { tmps := #[g0, g1, .pointer (some ⟨B2, 0, none⟩), .pointer (some ⟨S3, 0, none⟩), g4, g5, g6, g7, .pointer (some ⟨K8, 0, none⟩), g9, .pointer (some ⟨K10, 0, none⟩), .pointer (some ⟨K11, 0, none⟩), g12, g13, g14, g15, g16, g17, g18, g19, g20, g21, g22, g23, g24, g25, g26, g27, g28, g29, g30, g31, g32, g33, g34, g35, g36, g37, g38, g39, .pointer (some ⟨R, 0, none⟩), g41, g42, g43, g44, g45, g46, g47, g48, g49, g50, g51, g52, g53, g54, g55, g56, g57, g58, g59, g60, g61, g62, g63, g64, g65, g66, g67, g68, g69, g70, g71, g72, g73, g74, g75, g76, g77, g78, g79, g80, g81, g82, g83, g84, g85, g86, g87, g88, g89, g90, g91, g92, g93, g94, g95, g96, g97, g98, g99, g100, g101, g102, g103, g104, g105, g106, g107, g108, g109, g110, g111, g112, g113, g114, g115, g116, g117, g118, g119, g120], defers := dsn.map markOf } w := by
  simp only [Try.f77, Option.getD_some, codeBlk, ↓reduceIte, Nat.reduceEqDiff, Option.some.injEq, Code.block.injEq, true_and] at hc
  subst hc
  have H2 := Lib.hid h2
  have HK := Lib.hid hk
  have HR := Lib.hid hR
  have HS := Lib.hid hS
  have HO := Lib.hid hO
  have H8 := Lib.hid h8
  have H10 := Lib.hid h10
  have H11 := Lib.hid h11
  have HNE := Lib.hid hne
  have HQ := Lib.hid hQ
  have HX := Lib.hid hx
  have HLEN := Lib.hid hlen
  have HD := Lib.hid hd
  have HL0 := Lib.hid hl0
  have HI0 : Hid (LvI w bo nx R lv lo0 D NX LV (outN gin gout beds s dart) (nxtN gin gout beds) w left0 [] dsn) := Lib.hid ⟨hit, by simpa using hlv, by simpa using ht, Chg.refl _ _, Kc.refl _ _, hm⟩
  clear hQ h2 hk hR hS hO h8 h10 h11 ht hne hx hlen hd hl0 hm hlv hit
  refine wpIn_loop (fun a' W => ∃ (x12 x13 x41 x42 x43 x44 x45 x46 x47 x48 x49 x50 x51 x52 x53 x54 x55 x56 x57 x58 x59 : Value) (left : List (Nw × Yes)) (dn : List Nw) (dsn' : List Nat), LvI w bo nx R lv lo0 D NX LV (outN gin gout beds s dart) (nxtN gin gout beds) W left dn dsn' ∧ a' = { tmps := #[g0, g1, .pointer (some ⟨B2, 0, none⟩), .pointer (some ⟨S3, 0, none⟩), g4, g5, g6, g7, .pointer (some ⟨K8, 0, none⟩), g9, .pointer (some ⟨K10, 0, none⟩), .pointer (some ⟨K11, 0, none⟩), x12, x13, g14, g15, g16, g17, g18, g19, g20, g21, g22, g23, g24, g25, g26, g27, g28, g29, g30, g31, g32, g33, g34, g35, g36, g37, g38, g39, .pointer (some ⟨R, 0, none⟩), x41, x42, x43, x44, x45, x46, x47, x48, x49, x50, x51, x52, x53, x54, x55, x56, x57, x58, x59, g60, g61, g62, g63, g64, g65, g66, g67, g68, g69, g70, g71, g72, g73, g74, g75, g76, g77, g78, g79, g80, g81, g82, g83, g84, g85, g86, g87, g88, g89, g90, g91, g92, g93, g94, g95, g96, g97, g98, g99, g100, g101, g102, g103, g104, g105, g106, g107, g108, g109, g110, g111, g112, g113, g114, g115, g116, g117, g118, g119, g120], defers := dsn'.map markOf }) (fun _ W => itLeft W R lv) ⟨g12, g13, g41, g42, g43, g44, g45, g46, g47, g48, g49, g50, g51, g52, g53, g54, g55, g56, g57, g58, g59, left0, [], dsn, HI0.out, rfl⟩ ?_
  rintro a' wr ⟨x12, x13, x41, x42, x43, x44, x45, x46, x47, x48, x49, x50, x51, x52, x53, x54, x55, x56, x57, x58, x59, left, dn, dsn', hI, rfl⟩
  have HI := Lib.hid hI
  clear hI
  dsimp only
  gi_wp2_with (gi_at_next; refine wpIn_nextL rfl _ rfl R lv left rfl HI.out.it ?_ ?_)
  · rintro rfl
    have HF : Hid (Two wr bo nx (D ++ LV.flatMap (outN gin gout beds s dart)) (NX ++ LV.flatMap (nxtN gin gout beds))) := Lib.hid (by
      have hall := HI.out.all
      simp only [List.map_nil, List.not_mem_nil, or_false] at hall
      exact HI.out.two.congr (fun o => by simp only [List.mem_append, List.mem_flatMap, hall]) (fun o => by simp only [List.mem_append, List.mem_flatMap, hall]))
    gi_wp2
    exact HQ.out wr dsn' _ _ _ _ _ _ _ _ _ _ _ _ _ _ _ _ _ _ _ _ _ HF.out HI.out.chg HI.out.kc HI.out.marks
  · intro n y pre post w5 hsp hit5 hc5 hen
    obtain ⟨nl, ni, nt⟩ := n
    unfold Nw.agg Yes.val at hen
    simp only at hen
    have hmem : (⟨nl, ni, nt⟩ : Nw) ∈ LV := (HI.out.all _).2 (.inr (by rw [hsp]; simp))
    have hbd := HX.out _ hmem
    simp only at hbd
    have HBD := Lib.hid hbd
    have HALL : Hid (∀ k, k ∈ LV ↔ k ∈ dn ++ [(⟨nl, ni, nt⟩ : Nw)] ∨ k ∈ (pre ++ post).map (·.1)) := Lib.hid (fun k => by
      rw [HI.out.all, hsp]
      simp only [List.map_append, List.map_cons, List.mem_append, List.mem_cons, List.not_mem_nil, or_false]
      constructor
      · rintro (h | h | h | h)
        · exact .inl (.inl h)
        · exact .inr (.inl h)
        · exact .inl (.inr h)
        · exact .inr (.inr h)
      · rintro ((h | h) | (h | h))
        · exact .inl h
        · exact .inr (.inr (.inl h))
        · exact .inr (.inl h)
        · exact .inr (.inr (.inr h)))
    have HMEA : Hid (itLeft w5 R lv < itLeft wr R lv) := Lib.hid (by rw [HI.out.it.count, hit5.count, hsp]; simp)
    have HIT5 := Lib.hid hit5
    have HC5 := Lib.hid hc5
    have HT5 := Lib.hid (HI.out.two.chg hc5 (fun e => HNE.out.2.1 e.symm) (fun e => HNE.out.2.2.1 e.symm))
    have HKC5 : Hid (Kc S0 w w5) := Lib.hid (HI.out.kc.trans ⟨hc5.size, fun k cs t f hk _ => hc5.heap hk (by rintro rfl; exact HI.out.it.notCells.1 _ _ _ hk)⟩)
    have HM5 : Hid (Marks lo0 w5 dsn') := Lib.hid (HI.out.marks.chg hc5 (fun D' hD e => by
      have h1 := (HI.out.marks.all D' hD).2
      rw [show D' = R from e] at h1
      exact HI.out.it.notCells.2 _ h1))
    have HSZ5 := Lib.hid (Nat.le_trans HL0.out HKC5.out.size)
    clear hmem hbd hsp hit5 hc5
    gi_upto_region 14 with fail
    obtain ⟨w6, hw6⟩ : ∃ y, y = w5.alloc (.cells #[.int .i64 nl, .bool ni, .int .i64 nt] 127) := ⟨_, rfl⟩
    rw [← hw6]
    obtain ⟨K12, hk12⟩ : ∃ y, y = w5.heap.size := ⟨_, rfl⟩
    rw [← hk12]
    have hx6 : Ext w5 w6 := by rw [hw6]; exact (Ext.refl w5).alloc _
    have HB12 : Hid (Blk w6 K12 #[.int .i64 nl, .bool ni, .int .i64 nt]) := Lib.hid (by rw [hw6, hk12]; exact Blk.new _ _ _)
    have HX6 := Lib.hid hx6
    have HKC6 := Lib.hid (HKC5.out.ext hx6)
    clear hw6 hk12 hx6 hen
    have l2 := (HKC6.out.blk H2.out id).lt
    have lk := (HKC6.out.blk HK.out id).lt
    have l12 := HB12.out.lt
    obtain ⟨fi, hfi⟩ : ∃ v, finI gin gout beds nl ni = v := ⟨_, rfl⟩
    have HFI := Lib.hid hfi
    have HFB : Hid (0 ≤ fi ∧ fi ≤ 1) := Lib.hid (by rw [← hfi]; unfold finI; split <;> decide)
    clear hfi
    have HFIN : Hid (∀ W, Ext w6 W → Calls Try.prog 80 #[.agg #[.int .i64 start, .int .i64 gin, .int .i64 gout, .slice ba beds.length bc], .agg #[.int .i64 nl, .bool ni]] W fun e w' => e = .returned (.int .i64 fi) ∧ Ext W w') := Lib.hid (fun W hX => by
      have := mean_isFinish start gin gout nl ni beds ba bc W (rd_cells (HR.out.keep (HKC6.out.ext hX))).2 (by have := HLEN.out; omega) (fun x hx => HBD.out.1 x (.inr hx))
      rw [HFI.out] at this
      exact this)
    have hw : wrap64 (nt + fi) = nt + fi := wrap64_in' ⟨by have := HBD.out.2; have := HFB.out; omega, by have := HBD.out.2; have := HFB.out; omega⟩
    have m0 : ∀ y : Lat (fun b _ => w6.heap.size ≤ b) w6, y.world.cell? ⟨B2, 0, none⟩ = some (.pointer (some ⟨kb, 0, none⟩)) := fun y => ((HKC6.out.blk H2.out id).ext (Lat.ext1 y)).cell 0 rfl
    have q0 : ∀ y : Lat (fun b _ => w6.heap.size ≤ b) w6, y.world.cell? ⟨kb, 0, none⟩ = some (.int .i64 start) := fun y => ((HKC6.out.blk HK.out id).ext (Lat.ext1 y)).cell 0 rfl
    have q1 : ∀ y : Lat (fun b _ => w6.heap.size ≤ b) w6, y.world.cell? ⟨kb, 1, none⟩ = some (.int .i64 gin) := fun y => ((HKC6.out.blk HK.out id).ext (Lat.ext1 y)).cell 1 rfl
    have q2 : ∀ y : Lat (fun b _ => w6.heap.size ≤ b) w6, y.world.cell? ⟨kb, 2, none⟩ = some (.int .i64 gout) := fun y => ((HKC6.out.blk HK.out id).ext (Lat.ext1 y)).cell 2 rfl
    have q3 : ∀ y : Lat (fun b _ => w6.heap.size ≤ b) w6, y.world.cell? ⟨kb, 3, none⟩ = some (.slice ba beds.length bc) := fun y => ((HKC6.out.blk HK.out id).ext (Lat.ext1 y)).cell 3 rfl
    have q4 : ∀ y : Lat (fun b _ => w6.heap.size ≤ b) w6, y.world.cell? ⟨kb, 4, none⟩ = some (.map (some bf)) := fun y => ((HKC6.out.blk HK.out id).ext (Lat.ext1 y)).cell 4 rfl
    have n0 : ∀ y : Lat (fun b _ => w6.heap.size ≤ b) w6, y.world.cell? ⟨K12, 0, none⟩ = some (.int .i64 nl) := fun y => (HB12.out.ext (Lat.ext1 y)).cell 0 rfl
    have n1 : ∀ y : Lat (fun b _ => w6.heap.size ≤ b) w6, y.world.cell? ⟨K12, 1, none⟩ = some (.bool ni) := fun y => (HB12.out.ext (Lat.ext1 y)).cell 1 rfl
    have n2 : ∀ y : Lat (fun b _ => w6.heap.size ≤ b) w6, y.world.cell? ⟨K12, 2, none⟩ = some (.int .i64 nt) := fun y => (HB12.out.ext (Lat.ext1 y)).cell 2 rfl
    refine wpIn_calls (by kernel_rfl) [.no, .no, .no, .no, .no, .no, .no, .no, .of (fun v => v = .int .i64 fi) (.int .i64 fi) rfl, .no, .ptr, .any] w6.heap.size (fun (c : (Nat × World)) => c.2.heap.size)
      (fun (c : (Nat × World)) L u => [bif L 8 then Res.snap c else Res.none, bif L 8 then Res.pure (Ext w6 c.2 ∧ w6.heap.size ≤ c.1 ∧ Nop (u 8) c.1 c.2) else Res.none, bif L 10 then Res.blk (ptrAt (u 10)) (bif L 11 then #[.int .i64 (nt + fi)] else #[.int .i64 0]) else Res.none])
      (0, w6) (by kernel_rfl) (Nat.le_of_ble_eq_true rfl) (fun c L L' u hh => by simp only [hh 8 rfl, hh 10 rfl, hh 11 rfl]) (by simp) (fun _ => Frm.nones _ 3 w6) ?_
    intro T hT hne u hu
    have u8 : u 8 = .int .i64 fi := hu 8 rfl
    obtain ⟨k13, u10⟩ : ∃ k, u 10 = .pointer (some ⟨k, 0, none⟩) := hu 10 rfl
    clear hu
    refine lx_next 8 (by rfl) (by decide) ?_
    dsimp only [List.take, List.drop]
    repeat (go_big_quiet_step (fail))
    refine wpQuiet_nil ?_
    refine lx_loud (by rfl) (by kernel_rfl) ?_ (fun K hK => ?_)
    · intro L w3 hL hd hcl hC hs
      obtain ⟨y, rfl⟩ := hC
      obtain ⟨c, hmc, hs⟩ := hs
      have hzs := y.size
      simp only [hL, cond_false] at hs
      have hX : Ext w6 y.world := Chg.to_ext (Ext.refl w6) y.chg (by rintro i ⟨_, h⟩; exact h)
      have hmc2 : c.2.heap.size ≤ y.world.heap.size := hmc
      have HS8 := Lib.hid hs
      clear hs
      go_wp2_with fail
      refine (HFIN.out _ hX).mono ?_
      rintro e w' ⟨rfl, hx⟩
      have hsz' := hx.size
      have HV : Hid (Nop (.int .i64 fi) y.world.heap.size w') := Lib.hid .mk
      go_wp2
      exact lik_call y (Nat.le_refl _) rfl HS8.out 0 1 (by decide) rfl rfl hx (y.world.heap.size, w') (by show w'.heap.size ≤ w'.heap.size; omega) (φ := Ext w6 w' ∧ w6.heap.size ≤ y.world.heap.size ∧ Nop _ y.world.heap.size w') ⟨hX.trans hx, hzs, HV.out⟩ (by first | (simp [upd, updv, hL]; done) | (simp [upd, updv, hL]; rfl))
    rw [u8]
    go_simp
    with_reducible refine hK _ ?_
    clear hK K
    refine lx_next 1 (by rfl) (by decide) ?_
    dsimp only [List.take, List.drop]
    repeat (go_big_quiet_step (fail))
    refine wpQuiet_nil ?_
    refine lx_loud (by rfl) (by kernel_rfl) ?_ (fun K hK => ?_)
    · intro L w3 hL hd hcl hC hs
      obtain ⟨y, rfl⟩ := hC
      obtain ⟨c, hmc, hs⟩ := hs
      have hzs := y.size
      have h11 := hcl.off hL 40 11 (by kernel_rfl)
      simp only [hL, h11, cond_false] at hs
      go_wp2
      exact lik_set y (Nat.le_refl _) ⟨_, rfl⟩ hs 2 (r' := Res.blk y.world.heap.size #[.int .i64 0]) rfl (((Ext.refl y.world).alloc _).chg _) (Blk.new _ _ _) (fun k hk => .inr (by rw [show k = y.world.heap.size from hk]; simp)) c hmc (by first | (simp [upd, updv, hL, h11]; done) | (simp [upd, updv, hL, h11]; rfl))
    rw [u10]
    go_simp
    with_reducible refine hK _ ?_
    clear hK K
    refine lx_loud (by rfl) (by kernel_rfl) ?_ (fun K hK => ?_)
    · intro L w3 hL hd hcl hC hs
      obtain ⟨y, rfl⟩ := hC
      obtain ⟨c, hmc, hs⟩ := hs
      have hzs := y.size
      have h10 := hd 10 (by kernel_rfl)
      simp only [hL, h10, cond_true, cond_false] at hs
      rw [u10] at hs
      have hb : Blk y.world k13 #[.int .i64 0] := hs.get 2 rfl
      have hlt := hb.lt
      have q0 := hb.cell 0 (v := .int .i64 0) rfl
      have f0 := hb.frozen 0
      go_wp2
      exact lik_set y (Nat.le_refl _) trivial hs 2 rfl (one_chg (fun k => k = k13) _ rfl _ ) (r' := Res.blk k13 #[.int .i64 (nt + fi)]) (one_set hb _ ) (fun _ hk => .inl hk) c hmc (by first | (simp [upd, updv, hL, h10, u10, ptrAt]; done) | (simp [upd, updv, hL, h10, u10, ptrAt]; rfl))
    go_simp
    with_reducible refine hK _ ?_
    clear hK K
    refine lx_nil ?_
    intro y hs
    obtain ⟨c, hmc, hs⟩ := hs
    rw [u8, u10] at hs
    have hX : Ext w6 y.world := Chg.to_ext (Ext.refl w6) y.chg (by rintro i ⟨_, h⟩; exact h)
    have hmc2 : c.2.heap.size ≤ y.world.heap.size := hmc
    have hp8 : Ext w6 c.2 ∧ w6.heap.size ≤ c.1 ∧ Nop (.int .i64 fi) c.1 c.2 := hs.get 1 rfl
    have hr8 := hp8.2.2.chg (snap_chg (hs.get 0 rfl) hp8.1 hX (by omega)) (fun k hk => hk.2)
    have hsl8 := hp8.2.1
    have hbk13 : Blk y.world k13 #[.int .i64 (nt + fi)] := hs.get 2 rfl
    have hlk13 := hs.lt 2 rfl k13 rfl
    generalize c.1 = sz8 at *
    clear hs hp8 hmc hmc2 hT hne u8 u10
    generalize y.world = w7 at *
    clear m0 q0 q1 q2 q3 q4 n0 n1 n2 l2 lk l12 hw
    have HKC7 := Lib.hid (HKC6.out.ext hX)
    have HX7 := Lib.hid (HX6.out.trans hX)
    have HB13 := Lib.hid hbk13
    have HB12' := Lib.hid (HB12.out.ext hX)
    clear hX hbk13 hlk13
    rename_i K0 a0
    refine a0 _ _ ?_
    refine from_now _ (by kernel_rfl) _ start gin gout nl s ni nt dart beds bc ba bf B2 kb S3 O7 K8 K10 K11 K12 k13 bo nx (D ++ dn.flatMap (outN gin gout beds s dart)) (NX ++ dn.flatMap (nxtN gin gout beds)) fi (dsn'.map markOf) w7 _ _ _ _ _ _ _ _ _ _ _ _ _ _ _ _ _ _ _ _ _ _ _ _ _ _ _ _ _ _ _ _ _ _ _ _ _ _ _ _ _ _ _ _ _ _ _ _ _ _ _ _ _ _ _ _ _ _ _ _ _ _ _ _ _ _ _ _ _ _ _ _ _ _ _ _ _ _ _ _ _ _ _ _ _ _ _ _ _ _ _ _ _ _ _ _ _ _ _ _ _ _ _ _ _ _ _ _ _ _ _ _ _ _
      (HKC7.out.blk H2.out id) (HKC7.out.blk HK.out id) (HR.out.keep HKC7.out) (HKC7.out.blk HS.out id) (HKC7.out.blk HO.out id) (HKC7.out.blk H8.out id) (HKC7.out.blk H10.out id) (HKC7.out.blk H11.out id) HB12'.out HB13.out HFI.out (HT5.out.ext HX7.out) HNE.out.1 HBD.out.1 HD.out HBD.out.2 HLEN.out ?_
    intro W Dm y55 y56 y57 y58 y59 hDm hKm htwo hchg
    have HT7 := HT5.out.ext HX7.out
    have hM7 := (HM5.out.chg (S := S0) (HX7.out.chg _) (fun _ _ h => h))
    have hit := (HIT5.out.ext HX7.out).chg hchg (by rintro (h | h); exact HNE.out.2.1 h; exact HNE.out.2.2.1 h) (by rintro (h | h); exact HNE.out.2.2.2.1 h; exact HNE.out.2.2.2.2 h)
    refine (show (∃ _, _) ∧ _ from ⟨⟨_, _, _, _, _, _, _, _, _, _, _, _, _, _, _, _, _, _, _, _, _, pre ++ post, dn ++ [⟨nl, ni, nt⟩], Dm :: dsn', ⟨?_, HALL.out, ?_, ?_, ?_, ?_⟩, rfl⟩, ?_⟩)
    · exact hit
    · rw [List.flatMap_append, List.flatMap_append, ← List.append_assoc, ← List.append_assoc]
      simpa using htwo
    · exact ((HI.out.chg.trans (HC5.out.mono fun k _ h => .inr (.inr h))).trans (HX7.out.chg _)).trans (hchg.mono fun k _ h => h.elim .inl fun h => .inr (.inl h))
    · exact HKC7.out.trans (HT7.kc hchg)
    · refine Marks.cons (hM7.chg hchg fun D' hD h => ?_) (fun hD => ?_) (Nat.le_trans HSZ5.out (Nat.le_trans HX7.out.size hDm)) hKm
      · have := HT7.ne (hM7.all D' hD).2
        exact h.elim this.1 this.2
      · have h1 := (Array.getElem?_eq_some_iff.1 (HM5.out.all Dm hD).2).1
        have h2 := HX7.out.size
        omega
    · show itLeft W R lv < itLeft wr R lv
      rw [hit.count, ← HIT5.out.count]
      exact HMEA.out
end Go.Proofs.Ytmopadnkjlodnaa
