/-
  The statements' helpers: beds of numbers are beds; pubOut, pubLeg, pubWorth, pubCopy, pubThrown.
-/
import Derived.Test.YtpifdeglhalefaaWpb
import Derived.Test.YtpifdeglhalefaaLegD
namespace Go.Proofs.Ytpifdeglhalefaa
open Go.RowKit Go.BigFrame
attribute [local go_sem] Later.cell Later.frozen
theorem setW_mem {S : List Int} {j : Nat} {x : Int} : x ∈ setW S j ↔ (0 ≤ x ∧ x < j) ∧ x ∈ S := by
  unfold setW
  simp only [List.mem_map, List.mem_filter, List.mem_range, List.contains_eq_mem, decide_eq_true_eq]
  constructor
  · rintro ⟨i, ⟨h1, h2⟩, rfl⟩
    exact ⟨by omega, h2⟩
  · rintro ⟨h1, h2⟩
    exact ⟨x.toNat, ⟨by omega, by rwa [Int.toNat_of_nonneg h1.1]⟩, Int.toNat_of_nonneg h1.1⟩
theorem setW_asc (S : List Int) (j : Nat) : (setW S j).Pairwise (· < ·) := by
  unfold setW
  rw [List.pairwise_map]
  refine List.Pairwise.filter _ ?_
  have := List.pairwise_lt_range (n := j)
  exact this.imp fun h => by omega
theorem bedsB_asc : ∀ {l : List Int}, l.Pairwise (· < ·) → (∀ x ∈ l, isBedB x = true) → bedsB l = true
  | [], _, _ => rfl
  | [x], _, h => h x (by simp)
  | x :: y :: l, hp, h => by
    obtain ⟨h1, h2⟩ := List.pairwise_cons.1 hp
    unfold bedsB
    simp only [Bool.and_eq_true, decide_eq_true_eq]
    exact ⟨⟨h x (by simp), h1 y (by simp)⟩, bedsB_asc h2 fun z hz => h z (by simp [hz])⟩
theorem mrkN_mem {l : List Int} {k : Nat} {x : Int} (h : x ∈ mrkN l k) : ∃ i, i < k ∧ x = bedN (bytW l i) := by
  unfold mrkN at h
  obtain ⟨i, hi, rfl⟩ := List.mem_map.1 h
  exact ⟨i, List.mem_range.1 hi, rfl⟩
theorem pbL_bed {l : List Int} {most : Nat} (hr : ∀ x ∈ l, 0 ≤ x ∧ x ≤ 255) {x : Int} (h : x ∈ pbL l most) : isBedB x = true := by
  obtain ⟨-, h2⟩ := setW_mem.1 h
  obtain ⟨i, -, rfl⟩ := mrkN_mem h2
  exact bedN_bed (bytW_in hr i)
theorem pbL_len {l : List Int} {most : Nat} (hr : ∀ x ∈ l, 0 ≤ x ∧ x ≤ 255) : 1 ≤ (pbL l most).length ∧ (pbL l most).length ≤ 82 := by
  constructor
  · obtain ⟨z, hz, h5⟩ := bedN_nat (bytW_in hr 0)
    have h1 : (z : Int) ∈ pbL l most := setW_mem.2 ⟨by omega, by
      unfold mrkN
      exact List.mem_map.2 ⟨0, List.mem_range.2 (by unfold cntN; omega), hz⟩⟩
    exact List.length_pos_of_mem h1
  · unfold pbL setW
    rw [List.length_map, ← List.countP_eq_length_filter]
    have h1 : (List.range 500).countP (fun (i : Nat) => (mrkN l (cntN l most)).contains (i : Int)) ≤ (List.range 500).countP (fun (i : Nat) => isBedB (i : Int)) := by
      refine List.countP_mono_left fun i _ hi => ?_
      obtain ⟨j, -, e⟩ := mrkN_mem (x := (i : Int)) (by simpa using hi)
      rw [e]
      exact bedN_bed (bytW_in hr j)
    have h2 : (List.range 500).countP (fun (i : Nat) => isBedB (i : Int)) = 82 := by decide +kernel
    omega
theorem pbL_rul {l : List Int} {most : Nat} (hr : ∀ x ∈ l, 0 ≤ x ∧ x ≤ 255) {g darts : Int} (hg : 0 ≤ g ∧ g ≤ 2) (hd : 1 ≤ darts ∧ darts ≤ 9) : rulO (pbL l most) g darts = true := by
  have hl := pbL_len (most := most) hr
  unfold rulO areB
  simp only [Bool.and_eq_true]
  refine ⟨⟨bedsB_asc (setW_asc _ _) fun x hx => pbL_bed hr hx, ?_⟩, ?_, ?_⟩
  · exact ins_one.2 (by omega)
  · exact ins_one.2 hg
  · exact ins_one.2 hd
theorem pub1 : visS 101 0 1 true 101 [320, 220] = (⟨101, 0, 2, true, true, false⟩, 0) := by decide +kernel
theorem pub_Leg (w : World) : Calls Try.prog 22 #[] w fun e w' => e = .returned (.bool true) ∧ Ext w w' := by
  have hP := leg_Visit 101 0 1 true 101 [320, 220] (some ⟨w.heap.size, 0, none⟩) 2 _ (CellsAt.two w 320 220 33 rfl) (by simp [I64]) (by decide) _ pub1
  have HP := Lib.hid hP
  clear hP
  go_enter Try.func22, Try.ntmps22
  go_wp2_with fail
  refine HP.out.mono ?_
  rintro e w1 ⟨rfl, hx1⟩
  have hE1 := ((Ext.refl w).alloc (.cells #[.int .i64 320, .int .i64 220] 33)).trans hx1
  simp only [Thr.agg]
  go_wp2
  go_ret
  exact ⟨rfl, hE1.alloc _⟩
theorem pub_Worth (b : Int) (w : World) (hb : I64 b) : Calls Try.prog 25 #[.int .i64 b] w fun e w' => e = .returned (.int .i64 (wrt b)) ∧ Ext w w' := by
  go_enter Try.func25, Try.ntmps25
  go_wp2
  go_ret
  refine ⟨ret_int ?_, Ext.refl _⟩
  rw [show wrap64 (b.tdiv 100) = b.tdiv 100 from wrap_fct hb]
  have := wrt_bounds hb
  exact IntWalk.wrap64_in _ ⟨by unfold wrt fct nmb at this; omega, by unfold wrt fct nmb at this; omega⟩
def sixO : List Int := [120, 125, 205, 220, 225, 320]
theorem knownP1 : rulO sixO 1 2 = true := by decide +kernel
theorem knownP2 : totO (rwsO 1 sixO 60 2) 60 = 3 := by decide +kernel
theorem knownP3 : (fewO 1 sixO 40)[35]? = some 2 ∧ (fewO 1 sixO 40)[25]? = some (-1) := by decide +kernel
theorem CellsAt.six' {w : World} {b : Nat} {x0 x1 x2 x3 x4 x5 : Int} (h : Blk w b #[.int .i64 x0, .int .i64 x1, .int .i64 x2, .int .i64 x3, .int .i64 x4, .int .i64 x5]) : CellsAt w .i64 (some ⟨b, 0, none⟩) [x0, x1, x2, x3, x4, x5] := fun i hi => by
  match i, hi with
  | 0, _ => exact ⟨b, 0, rfl, h.cell 0 rfl⟩
  | 1, _ => exact ⟨b, 0, rfl, h.cell 1 rfl⟩
  | 2, _ => exact ⟨b, 0, rfl, h.cell 2 rfl⟩
  | 3, _ => exact ⟨b, 0, rfl, h.cell 3 rfl⟩
  | 4, _ => exact ⟨b, 0, rfl, h.cell 4 rfl⟩
  | 5, _ => exact ⟨b, 0, rfl, h.cell 5 rfl⟩
set_option maxRecDepth 100000 in
theorem pub_Out (w : World) : Calls Try.prog 21 #[] w fun e w' => e = .returned (.bool true) ∧ Ext w w' := by
  have hl41 := fewO_len 1 sixO 40
  obtain ⟨FL, hFL⟩ : ∃ y, fewO 1 sixO 40 = y := ⟨_, rfl⟩
  have hk := knownP3
  rw [hFL] at hk hl41
  have HFL := Lib.hid hFL
  have HK := Lib.hid hk
  have HL := Lib.hid hl41
  clear hk hl41 hFL
  go_enter Try.func21, Try.ntmps21
  go_upto_region 2 with fail
  obtain ⟨w1, hw1⟩ : ∃ y, y = (w.alloc (.cells #[.int .i64 120, .int .i64 125, .int .i64 205, .int .i64 220, .int .i64 225, .int .i64 320] 33)).alloc (.cells #[.slice (some ⟨w.heap.size, 0, none⟩) 6 6, .int .i64 1, .int .i64 2] 74) := ⟨_, rfl⟩
  rw [← hw1]
  have hx1 : Ext w w1 := by rw [hw1]; exact ((Ext.refl w).alloc _).alloc _
  have hb1 : CellsAt w1 .i64 (some ⟨w.heap.size, 0, none⟩) sixO := by rw [hw1]; exact CellsAt.six' ((Blk.new _ _ _).alloc _)
  have hr1 : Blk w1 (w.heap.size + 1) #[.slice (some ⟨w.heap.size, 0, none⟩) 6 6, .int .i64 1, .int .i64 2] := by rw [hw1]; exact Blk.at _ (by simp)
  have r0 := hr1.cell 0 (v := .slice (some ⟨w.heap.size, 0, none⟩) 6 6) rfl
  have r1 := hr1.cell 1 (v := .int .i64 1) rfl
  have r2 := hr1.cell 2 (v := .int .i64 2) rfl
  have rl := hr1.lt
  have HX1 := Lib.hid hx1
  have HB1 := Lib.hid hb1
  have HR1 := Lib.hid hr1
  clear hw1 hx1 hb1 hr1
  have hn := out_Number sixO (some ⟨w.heap.size, 0, none⟩) 6 1 2 60 w1 HB1.out knownP1 (by omega)
  rw [knownP2] at hn
  have HN := Lib.hid hn
  clear hn
  go_wp2_with fail
  refine HN.out.mono ?_
  rintro e w2 ⟨rfl, hx2⟩
  have hr2 := HR1.out.ext hx2
  have r0 := hr2.cell 0 (v := .slice (some ⟨w.heap.size, 0, none⟩) 6 6) rfl
  have r1 := hr2.cell 1 (v := .int .i64 1) rfl
  have r2 := hr2.cell 2 (v := .int .i64 2) rfl
  have rl := hr2.lt
  have HF := Lib.hid (out_Fewest sixO (some ⟨w.heap.size, 0, none⟩) 6 1 2 40 w2 (HB1.out.ext hx2) knownP1 (by omega))
  rw [HFL.out] at HF
  have HX2 := Lib.hid (HX1.out.trans hx2)
  clear hx2 hr2 HN HB1 HR1
  go_wp2_with fail
  refine HF.out.mono ?_
  rintro e w3 ⟨v, rfl, ho, hx3⟩
  obtain ⟨fa, fc, rfl, hc⟩ := OwnI.cells ho
  have HX3 := Lib.hid (HX2.out.trans hx3)
  have h35 : 35 < FL.length := by rw [HL.out]; omega
  have h25 : 25 < FL.length := by rw [HL.out]; omega
  obtain ⟨gb, go, rfl, q0⟩ := hc 35 h35
  obtain ⟨gb', go', e2, q1⟩ := hc 25 h25
  cases e2
  have e35 : FL[35] = 2 := by
    have h := HK.out.1
    rw [List.getElem?_eq_getElem h35] at h
    injection h
  have e25 : FL[25] = -1 := by
    have h := HK.out.2
    rw [List.getElem?_eq_getElem h25] at h
    injection h
  rw [e35] at q0
  rw [e25] at q1
  have ql := lt_of_cell q0
  simp only at ql
  rw [HL.out]
  clear hx3 ho hc h35 h25 e35 e25 r0 r1 r2 rl HF
  go_wp2
  go_ret
  exact ⟨rfl, HX3.out⟩
set_option maxRecDepth 100000 in
theorem pub_Copy (l : List Int) (a : Option Addr) (c : Nat) (w : World) (h : CellsAt w .i64 a l) (hl : l.length ≤ 1000000) (hn : a = none → l.length = 0 ∧ c = 0) :
    Calls Try.prog 18 #[.slice a l.length c] w fun e w' => ∃ v, e = .returned v ∧ w'.ownsRow w.heap.size 33 1 v l.length (l.map (Value.int .i64)) ∧ Ext w w' := by
  have HC := Lib.hid h
  obtain ⟨n, hnn⟩ : ∃ y, l.length = y := ⟨_, rfl⟩
  have HNN := Lib.hid hnn
  rw [hnn] at hl hn ⊢
  have HNA := Lib.hid hn
  clear h hn hnn
  go_enter Try.func18, Try.ntmps18
  have hal : Ext w (w.alloc (.cells #[] 33)) := (Ext.refl _).alloc _
  have HOE := Lib.hid (own_empty (w := w) (base := w.heap.size) (size := 1) (e := 33) rfl (Nat.le_refl _))
  have HCA := Lib.hid (HC.out.ext hal)
  have HS := Lib.hid hal.size
  go_wp2_with (at_builtin; refine wp_append_from rfl _ _ 52 33 _ 1 8 rfl info_bedW (by kernel_rfl) rfl (by decide) w.heap.size (.slice (some ⟨w.heap.size, 0, none⟩) 0 0) 0 [] rfl HOE.out a n c (l.map (Value.int .i64)) rfl HNA.out (by rw [List.length_map, HNN.out, Nat.mul_one]) ?_ ?_ (by omega) (by omega) HS.out ?_)
  · intro ad had j' u hj
    rw [List.getElem?_map] at hj
    obtain ⟨x, hx, rfl⟩ := Option.map_eq_some_iff.1 hj
    obtain ⟨hjl, rfl⟩ := List.getElem?_eq_some_iff.1 hx
    obtain ⟨b, o, e, hc⟩ := HCA.out j' hjl
    rw [had] at e
    cases e
    rw [addr_add]
    exact hc
  · intro u hu
    obtain ⟨x, -, rfl⟩ := List.mem_map.1 hu
    rfl
  intro v w2 hO2 hg2 _
  have HX2 := Lib.hid (Chg.to_ext hal hg2 (fun q hq => (World.ownsRow.lt HOE.out q hq).1))
  have HO2 := Lib.hid hO2
  clear hO2 hg2
  go_wp2
  go_ret
  exact ⟨_, rfl, HO2.out, HX2.out⟩
end Go.Proofs.Ytpifdeglhalefaa
