/-
  Package mean: the extents of all visits from a stand.
-/
import Derived.Test.YtmopadnkjlodnaaMfw
import Derived.Laws.EntriesVeiled
namespace Go.Proofs.Ytmopadnkjlodnaa
open Go.RowKit Go.BigFrame
attribute [local go_sem] Oper.semAt_some Later.cell Later.frozen Lat.cell Lat.frozen NoX run_makeMap_plain
/-- A map that holds the extents of all visits from a stand. -/
def GoodM (gin gout : Int) (beds : List Int) (w : World) (n : Nat) (s : Sd) : Prop := ∃ l, MapL Gl.agg Ex.agg w n l ∧ OutR l (outS gin gout beds s)
theorem GoodM.chg {gin gout : Int} {beds : List Int} {S : Nat → Prop} {w w' : World} {n : Nat} {s : Sd} (h : GoodM gin gout beds w n s) (hx : Chg S w w') (hs : ¬ S n) : GoodM gin gout beds w' n s := let ⟨l, h1, h2⟩ := h; ⟨l, h1.chg hx hs, h2⟩
theorem GoodM.lt {gin gout : Int} {beds : List Int} {w : World} {n : Nat} {s : Sd} (h : GoodM gin gout beds w n s) : n < w.heap.size := let ⟨_, h1, _⟩ := h; h1.lt
/-- What was found is right. -/
structure FoundM (gin gout : Int) (beds : List Int) (w : World) (bf : Nat) (fl : List (Sd × Nat)) : Prop where
  map : MapL Sd.agg mpK w bf fl
  good : ∀ x ∈ fl, GoodM gin gout beds w x.2 x.1 ∧ x.2 ≠ bf
theorem FoundM.ext {gin gout : Int} {beds : List Int} {w w' : World} {bf : Nat} {fl : List (Sd × Nat)} (h : FoundM gin gout beds w bf fl) (hx : Ext w w') : FoundM gin gout beds w' bf fl :=
  ⟨h.map.ext hx, fun x hm => ⟨(h.good x hm).1.chg (hx.chg S0) (fun e => e), (h.good x hm).2⟩⟩
/-- One more is found. -/
theorem FoundM.put {gin gout : Int} {beds : List Int} {w wa W : World} {bf n : Nat} {fl : List (Sd × Nat)} {s : Sd} (h : FoundM gin gout beds w bf fl) (hx : Chg S0 w wa) (hc : Chg (· = bf) wa W) (hm : MapL Sd.agg mpK W bf (putL fl s n)) (hg : GoodM gin gout beds wa n s) (hn : n ≠ bf) : FoundM gin gout beds W bf (putL fl s n) :=
  ⟨hm, fun x hx' => by
    rcases (mem_put h.map.nodup s n x).1 hx' with rfl | ⟨h1, -⟩
    · exact ⟨hg.chg hc (fun e => hn e), hn⟩
    · have := h.good x h1
      exact ⟨(this.1.chg hx (fun e => e)).chg hc (fun e => this.2 e), this.2⟩⟩
theorem Chg.far {S T : Nat → Prop} {a b c : World} (h : Chg S a b) (k : Chg T b c) (hT : ∀ j, T j → S j ∨ a.heap.size ≤ j) : Chg S a c :=
  ⟨k.os.trans h.os, k.tape.trans h.tape, k.output.trans h.output, Nat.le_trans h.size k.size, fun i hi hs => (k.block i (Nat.lt_of_lt_of_le hi h.size) (fun e => by rcases hT i e with e | e; exact hs e; omega)).trans (h.block i hi hs)⟩
theorem FoundM.shut {gin gout : Int} {beds : List Int} {w w' : World} {bf lo : Nat} {fl : List (Sd × Nat)} (h : FoundM gin gout beds w bf fl) (hx : Shut lo w w') : FoundM gin gout beds w' bf fl :=
  ⟨hx.map h.map, fun x hm => ⟨let ⟨l, h1, h2⟩ := (h.good x hm).1; ⟨l, hx.map h1, h2⟩, (h.good x hm).2⟩⟩
set_option maxRecDepth 100000 in
set_option maxHeartbeats 8000000 in
theorem mean_from (start gin gout : Int) (beds : List Int) (ba : Option Addr) (bc kb bf : Nat) (fl : List (Sd × Nat)) (s : Sd) (w : World) (hb : Blk w kb #[.int .i64 start, .int .i64 gin, .int .i64 gout, .slice ba beds.length bc, .map (some bf)]) (hR : RdI S0 w (.slice ba beds.length bc) beds)
    (hl : beds.length ≤ 100) (hB : bedsB beds = true) (hs : 0 ≤ s.left ∧ s.left ≤ 2000) (hf : FoundM gin gout beds w bf fl) :
    Calls Try.prog 77 #[.pointer (some ⟨kb, 0, none⟩), s.agg] w fun e w' => ∃ n fl', e = .returned (.map (some n)) ∧ FoundM gin gout beds w' bf fl' ∧ GoodM gin gout beds w' n s ∧ (∀ y ∈ fl', y ∈ fl ∨ w.heap.size ≤ y.2) ∧ Chg (· = bf) w w' := by
  refine (callsIn_wide (n := 8)).1 ?_
  have HB := Lib.hid hb
  have HR := Lib.hid hR
  have HBD := Lib.hid hB
  have HF := Lib.hid hf
  have HLB := Lib.hid hl
  have hbf := hf.map.lt
  have hbk := hb.lt
  have HSL := Lib.hid hs
  have HLK : Hid (∀ W, MapL Sd.agg mpK W bf fl → (Instr.lookup 154 (.map (some bf)) (.agg #[.int .i64 s.left, .bool s.inn]) true).run Try.prog W = .ok (.tuple #[((lookL fl s).map mpK).getD (.map none), .bool (lookL fl s).isSome]) W) := Lib.hid (fun W hW => (run_look keyL_stand under_found hW trivial (zero_out W) s).2)
  obtain ⟨sl, si⟩ := s
  unfold Sd.agg
  simp only at HLK HSL ⊢
  clear hb hR hB hf hl hs
  refine callsIn_of_wp_marks Try.func77 rfl trivial ?_ rfl
  simp only [Try.ntmps77, List.size_toArray, List.length_cons, List.length_nil, Nat.reduceAdd, Nat.reduceSub, Array.replicate_succ, Array.replicate_zero, List.push_toArray, List.append_toArray, List.nil_append, List.cons_append]
  gi_upto_region 1 with fail
  obtain ⟨w1, hw1⟩ : ∃ y, y = (w.alloc (.cells #[.pointer (some ⟨kb, 0, none⟩)] 104)).alloc (.cells #[.int .i64 sl, .bool si] 119) := ⟨_, rfl⟩
  rw [← hw1]
  have hx1 : Ext w w1 := by rw [hw1]; exact ((Ext.refl w).alloc _).alloc _
  have HP1 : Hid (Blk w1 w.heap.size #[.pointer (some ⟨kb, 0, none⟩)]) := Lib.hid (by rw [hw1]; exact (Blk.new w _ _).alloc _)
  have HS1 : Hid (Blk w1 (w.heap.size + 1) #[.int .i64 sl, .bool si]) := Lib.hid (by rw [hw1]; exact Blk.at _ (by simp))
  have HX1 := Lib.hid hx1
  have HB1 := Lib.hid (HB.out.ext hx1)
  have hlk : ∀ y : Lat NoX w1, (Instr.lookup 154 (.map (some bf)) (.agg #[.int .i64 sl, .bool si]) true).run Try.prog y.world = .ok (.tuple #[((lookL fl ⟨sl, si⟩).map mpK).getD (.map none), .bool (lookL fl ⟨sl, si⟩).isSome]) y.world := fun y => HLK.out _ (HF.out.map.ext (hx1.trans (Lat.ext0 y)))
  clear hw1 hx1
  have m0 : ∀ y : Lat NoX w1, y.world.cell? ⟨w.heap.size, 0, none⟩ = some (.pointer (some ⟨kb, 0, none⟩)) := fun y => (HP1.out.ext (Lat.ext0 y)).cell 0 rfl
  have n0 : ∀ y : Lat NoX w1, y.world.cell? ⟨(w.heap.size + 1), 0, none⟩ = some (.int .i64 sl) := fun y => (HS1.out.ext (Lat.ext0 y)).cell 0 rfl
  have n1 : ∀ y : Lat NoX w1, y.world.cell? ⟨(w.heap.size + 1), 1, none⟩ = some (.bool si) := fun y => (HS1.out.ext (Lat.ext0 y)).cell 1 rfl
  have q0 : ∀ y : Lat NoX w1, y.world.cell? ⟨kb, 0, none⟩ = some (.int .i64 start) := fun y => (HB1.out.ext (Lat.ext0 y)).cell 0 rfl
  have q1 : ∀ y : Lat NoX w1, y.world.cell? ⟨kb, 1, none⟩ = some (.int .i64 gin) := fun y => (HB1.out.ext (Lat.ext0 y)).cell 1 rfl
  have q2 : ∀ y : Lat NoX w1, y.world.cell? ⟨kb, 2, none⟩ = some (.int .i64 gout) := fun y => (HB1.out.ext (Lat.ext0 y)).cell 2 rfl
  have q3 : ∀ y : Lat NoX w1, y.world.cell? ⟨kb, 3, none⟩ = some (.slice ba beds.length bc) := fun y => (HB1.out.ext (Lat.ext0 y)).cell 3 rfl
  have q4 : ∀ y : Lat NoX w1, y.world.cell? ⟨kb, 4, none⟩ = some (.map (some bf)) := fun y => (HB1.out.ext (Lat.ext0 y)).cell 4 rfl
  cases hlke : lookL fl ⟨sl, si⟩ with
  | some n =>
    have HLKE := Lib.hid (lookL_mem hlke)
    rw [hlke] at hlk
    simp only [Option.map_some, Option.getD_some, Option.isSome_some, mpK] at hlk
    clear hlke
    refine wpIn_region_lat (by kernel_rfl) (by kernel_rfl) ?_
    intro T hT hne2
    repeat (go_big_quiet_step (fail))
    refine wpQuiet_nil ?_
    intro w2 hx2
    have HX2 := Lib.hid (HX1.out.trans hx2)
    clear hlk m0 n0 n1 q0 q1 q2 q3 q4 hT hne2
    gi_wp2
    refine ret_m (v := .map (some n)) rfl (by simp [results, Try.results77, go_sem]) ⟨n, fl, rfl, HF.out.ext HX2.out, ?_, fun y hy => .inl hy, HX2.out.chg _⟩
    exact ((HF.out.good _ HLKE.out).1).chg (HX2.out.chg S0) (fun e => e)
  | none =>
    rw [hlke] at hlk
    simp only [Option.map_none, Option.getD_none, Option.isSome_none] at hlk
    clear hlke
    refine wpIn_region_lat (by kernel_rfl) (by kernel_rfl) ?_
    intro T hT hne2
    repeat (go_big_quiet_step (fail))
    refine wpQuiet_nil ?_
    intro w2 hx2
    have HX2 := Lib.hid (HX1.out.trans hx2)
    clear hlk m0 n0 n1 q0 q1 q2 q3 q4 hT hne2
    gi_upto_region 6 with fail
    generalize hw3 : World.alloc (World.alloc (World.alloc w2 _) _) _ = w3
    obtain ⟨bo, hbo⟩ : ∃ y, y = w2.heap.size := ⟨_, rfl⟩
    rw [← hbo] at hw3 ⊢
    have hx3 : Ext w2 w3 := by rw [← hw3]; exact (((Ext.refl w2).alloc _).alloc _).alloc _
    have hs3 : w3.heap.size = bo + 1 + 1 + 1 := by rw [← hw3]; simp [hbo]
    have HMO : Hid (MapL Gl.agg Ex.agg w3 bo []) := Lib.hid (by
      have h0 : MapL Gl.agg Ex.agg (w2.alloc (.map #[] 0)) w2.heap.size ([] : List (Gl × Ex)) := MapL.made _
      rw [← hbo] at h0
      rw [← hw3]
      exact h0.ext (((Ext.refl _).alloc _).alloc _))
    have HO7 : Hid (Blk w3 (bo + 1) #[.map (some bo)]) := Lib.hid (by rw [← hw3]; exact (Blk.at _ (by simp [hbo])).alloc _)
    have HK8 : Hid (Blk w3 (bo + 1 + 1) #[.func (.func 94) #[] #[.pointer (some ⟨bo + 1, 0, none⟩)]]) := Lib.hid (by rw [← hw3]; exact Blk.at _ (by simp [hbo]))
    have HBO := Lib.hid hbo
    have HSZ3 := Lib.hid hs3
    have HX3 := Lib.hid (HX2.out.trans hx3)
    have HP3 := Lib.hid (HP1.out.ext (hx2.trans hx3))
    have HS3 := Lib.hid (HS1.out.ext (hx2.trans hx3))
    have HXB := Lib.hid hx3
    clear hw3 hbo hx3 hs3 hx2
    have hm0 : MapL Nw.agg Yes.val (w3.alloc (.map #[] 0)) w3.heap.size ([] : List (Nw × Yes)) := MapL.made _
    obtain ⟨w5, hrun, hm5, hc5⟩ := run_put (P := Try.prog) keyL_now under_level hm0 trivial ⟨sl, si, 0⟩ .yes
    unfold Nw.agg Yes.val at hrun
    simp only at hrun
    have HM5 := Lib.hid hm5
    have HC5 := Lib.hid hc5
    clear hm0 hm5 hc5
    have sx0 := HS3.out.cell 0 (v := .int .i64 sl) rfl
    have sx1 := HS3.out.cell 1 (v := .bool si) rfl
    have sxl := HS3.out.lt
    gi_wp2
    have HK35 : Hid (Kc S0 w3 w5) := Lib.hid (by
      have hc := HC5.out
      refine Kc.trans (Kc.of_ext ((Ext.refl w3).alloc (.map #[] 0))) ⟨hc.size, fun k cs t f hk _ => hc.heap hk ?_⟩
      rintro rfl
      exact (MapL.made (ek := Nw.agg) (ev := Yes.val) w3).notCells hk)
    have HK5 := Lib.hid ((Kc.of_ext (S := S0) HX3.out).trans HK35.out)
    have HZ5 : Hid (w3.heap.size < w5.heap.size) := Lib.hid (by have := HC5.out.size; simp at this; omega)
    have HW0 : Hid (Chg S0 w w5) := Lib.hid ((((HX3.out.alloc (.map #[] 0)).chg S0)).far HC5.out (fun j hj => .inr (by rw [show j = w3.heap.size from hj]; exact HX3.out.size)))
    have HLW := Lib.hid (lev_bounds (gin := gin) (gout := gout) (s := ⟨sl, si⟩) HBD.out HSL.out.1)
    refine from_darts _ (by kernel_rfl) _ start gin gout ⟨sl, si⟩ beds bc ba bf w.heap.size kb (w.heap.size + 1) (bo + 1) (bo + 1 + 1) bo w3.heap.size w.heap.size [] w5 _ _ _ _ _ _ _ _ _ _ _ _ _ _ _ _ _ _ _ _ _ _ _ _ _ _ _ _ _ _ _ _ _ _ _ _ _ _ _ _ _ _ _ _ _ _ _ _ _ _ _ _ _ _ _ _ _ _ _ _ _ _ _ _ _ _ _ _ _ _ _ _ _ _ _ _ _ _ _ _ _ _ _ _ _ _ _ _ _ _ _ _ _ _ _ _ _ _ _ _ _ _ _ _ _ _ _ _ _ _ _ _ _ _ _ _
      (HK35.out.blk HP3.out id) (HK5.out.blk HB.out id) (HR.out.keep HK5.out) (HK35.out.blk HS3.out id) (HK35.out.blk HO7.out id) (HK35.out.blk HK8.out id) ?hI HW0.out.size ?hx HLB.out ?hQ
    case hI =>
      refine ⟨⟨[], (HMO.out.ext ((Ext.refl w3).alloc _)).chg HC5.out ?_, OutR.nil⟩, ⟨_, HM5.out, ?_⟩, ?_, Chg.refl _ _, Kc.refl _ _, Marks.nil _ _⟩
      · have := HSZ3.out
        show ¬ bo = w3.heap.size
        omega
      · intro n
        rfl
      · have := HSZ3.out
        omega
    case hx =>
      intro k hk n hn
      have h1 := HLW.out k n hn
      have h2 := HSL.out
      simp only at h1 h2
      refine ⟨fun x hx => ?_, by omega⟩
      have h3 := beds_bounds HBD.out hx
      exact ⟨h3.1, by unfold I64; omega⟩
    case hQ =>
      intro W lv dsn i x10 x11 x12 x13 x36 x37 x38 x39 x40 x41 x42 x43 x44 x45 x46 x47 x48 x49 x50 x51 x52 x53 x54 x55 x56 x57 x58 x59 x95 x96 hI
      have HI := Lib.hid hI
      clear hI hrun
      rename_i K0 a0
      refine a0 _ _ ?_
      dsimp only
      obtain ⟨ll, hll, hlm⟩ := HI.out.lev
      obtain ⟨lo, hlo, hou⟩ := HI.out.out
      obtain ⟨ob, hrun, hit⟩ := run_rangeL (P := Try.prog) under_level hll
      obtain ⟨W1, hW1⟩ : ∃ y, y = W.alloc ob := ⟨_, rfl⟩
      rw [← hW1] at hrun hit
      have hX1 : Ext W W1 := by rw [hW1]; exact (Ext.refl W).alloc ob
      obtain ⟨R, hR'⟩ : ∃ y, y = W.heap.size := ⟨_, rfl⟩
      rw [← hR'] at hrun hit
      have HIT := Lib.hid hit
      have HX1' := Lib.hid hX1
      have HLO := Lib.hid (hlo.ext hX1)
      have HOU := Lib.hid hou
      have HLM := Lib.hid hlm
      have HRR := Lib.hid hR'
      have HBL := Lib.hid (And.intro hlo.lt hll.lt)
      clear hll hlo hou hlm hX1 hW1 hit hR'
      gi_wp2
      clear hrun
      have HKW := Lib.hid ((HK35.out.trans HI.out.kc).ext HX1'.out)
      refine from_last _ (by kernel_rfl) _ ⟨sl, si⟩ (w.heap.size + 1) (bo + 1) (bo + 1 + 1) bo R lv (outTo gin gout beds ⟨sl, si⟩ 3) (levN gin gout beds ⟨sl, si⟩ 3) ll (dsn.map markOf) W1 _ _ _ _ _ _ _ _ _ _ _ _ _ _ _ _ _ _ _ _ _ _ _ _ _ _ _ _ _ _ _ _ _ _ _ _ _ _ _ _ _ _ _ _ _ _ _ _ _ _ _ _ _ _ _ _ _ _ _ _ _ _ _ _ _ _ _ _ _ _ _ _ _ _ _ _ _ _ _ _ _ _ _ _ _ _ _ _ _ _ _ _ _ _ _ _ _ _ _ _ _ _ _ _ _ _ _ _ _ _ _ _ _ _ _ _ _ _
        (HKW.out.blk HS3.out id) (HKW.out.blk HO7.out id) (HKW.out.blk HK8.out id) ⟨HIT.out, by simpa using HLM.out, ⟨lo, HLO.out, by simpa using HOU.out⟩, Chg.refl _ _, Kc.refl _ _⟩ ⟨?hR, fun e => HI.out.ne e.symm⟩ ?hx2 ?hQ2
      case hR =>
        have h1 := HBL.out.1
        have h2 := HRR.out
        omega
      case hx2 =>
        intro n hn
        have h1 : (0 ≤ n.left ∧ n.left ≤ sl) ∧ _ := HLW.out 3 n hn
        have h2 := HSL.out
        show I64 (sl - n.left)
        unfold I64
        omega
      case hQ2 =>
        intro W2 z17 z99 z100 z101 z102 z103 z104 z105 z106 z107 z108 z109 z110 z111 z112 z113 hout hchg hkc
        have HOUT := Lib.hid hout
        have HCH := Lib.hid hchg
        have HKW2 := Lib.hid (HKW.out.trans hkc)
        have HKW3 := Lib.hid (((HK5.out.trans HI.out.kc).ext HX1'.out).trans hkc)
        clear hout hchg hkc
        rename_i K1 a1
        refine a1 _ _ ?_
        dsimp only
        gi_upto_region 30 with fail
        have hnb : bo ≠ bf := by
          have h1 := HBO.out
          have h2 := HX2.out.size
          omega
        have HBF : Hid (FoundM gin gout beds w bf fl) := HF
        have HCW : Hid (Chg S0 w W2) := Lib.hid (by
          have h1 := HI.out.chg
          have hw2 : w.heap.size ≤ bo := by rw [HBO.out]; exact HX2.out.size
          refine ((HW0.out.far h1 (fun j hj => .inr (by rw [show j = bo from hj]; exact hw2))).ext' HX1'.out).far HCH.out ?_
          have h3 := HRR.out
          have h4 := (HW0.out.far h1 (fun j hj => .inr (by rw [show j = bo from hj]; exact hw2))).size
          rintro j (rfl | rfl)
          · exact .inr hw2
          · exact .inr (by omega))
        have HMK : Hid (Marks w.heap.size W2 dsn) := Lib.hid (by
          have hm := HI.out.marks
          refine (hm.chg (S := S0) (HX1'.out.chg _) (fun _ _ h => h)).chg HCH.out ?_
          intro D' hD
          have h1 := (hm.all D' hD).2
          rintro (e | e)
          · obtain ⟨lo', h2, -⟩ := HI.out.out
            obtain ⟨_, _, h3, -⟩ := h2.ex
            rw [e] at h1
            rw [h1] at h3
            cases h3
          · have h2 := (Array.getElem?_eq_some_iff.1 h1).1
            have h3 := HRR.out
            omega)
        have kY : ∀ {b cs}, Blk W2 b cs → b ≠ bf → ∀ y : Lat (fun b _ => b = bf) W2, Blk y.world b cs := fun h hb y => h.chg y.chg (by rintro ⟨_, e⟩; exact hb e)
        have nB2 : w.heap.size ≠ bf := by omega
        have nS3 : w.heap.size + 1 ≠ bf := by omega
        have nkb : kb ≠ bf := by
          rintro rfl
          obtain ⟨t, ht⟩ := HB.out
          exact HF.out.map.notCells ht
        have nO7 : bo + 1 ≠ bf := by
          have h1 := HBO.out
          have h2 := HX2.out.size
          omega
        have lB2 := (HKW2.out.blk HP3.out id).lt
        have lS3 := (HKW2.out.blk HS3.out id).lt
        have lkb := (HKW3.out.blk HB.out id).lt
        have lO7 := (HKW2.out.blk HO7.out id).lt
        have y0 := fun y => (kY (HKW2.out.blk HP3.out id) nB2 y).cell 0 (v := .pointer (some ⟨kb, 0, none⟩)) rfl
        have y1 := fun y => (kY (HKW2.out.blk HS3.out id) nS3 y).cell 0 (v := .int .i64 sl) rfl
        have y2 := fun y => (kY (HKW2.out.blk HS3.out id) nS3 y).cell 1 (v := .bool si) rfl
        have y3 := fun y => (kY (HKW3.out.blk HB.out id) nkb y).cell 4 (v := .map (some bf)) rfl
        have y4 := fun y => (kY (HKW2.out.blk HO7.out id) nO7 y).cell 0 (v := .map (some bo)) rfl
        have HO7Y := Lib.hid (fun y => kY (HKW2.out.blk HO7.out id) nO7 y)
        have HMB := Lib.hid (HF.out.map.chg HCW.out (fun e => e))
        clear kY
        have hk6 : ∀ k : Nat, (k == 6) = true → k < 7 := by
          intro k hk
          have : k = 6 := by simpa using hk
          omega
        refine wpIn_lat (by kernel_rfl) (fun b _ => b = bf) (fun k => k == 6) (fun _ _ => True) (fun L _ W => bif L 6 then MapL Sd.agg mpK W bf (putL fl ⟨sl, si⟩ bo) else MapL Sd.agg mpK W bf fl) (by kernel_rfl) (fun k hk => hk6 k hk)
          (fun L L' u w' h hg => by have e := h 6 rfl; show (bif L' 6 then _ else _); rw [e]; exact hg) (fun L u a b h hx => by revert h; show (bif L 6 then _ else _) → (bif L 6 then _ else _); cases L 6 <;> exact fun h => MapL.ext h hx) (fun _ => undef) (fun _ _ => trivial) (HMB.out.ext (Ext.refl W2).drew) ?_
        intro T hT hne2 u hu
        clear hu
        refine lx_next 6 (by rfl) (by decide) ?_
        dsimp only [List.take, List.drop]
        repeat (go_big_quiet_step (fail))
        refine wpQuiet_nil ?_
        refine lx_loud (by rfl) (by kernel_rfl) ?_ (fun K hK => ?_)
        · intro L w4 hL hd hcl hC hs
          obtain ⟨y, rfl⟩ := hC
          simp only [hL, cond_false] at hs
          obtain ⟨w', hrun, hm', hc'⟩ := run_put (P := Try.prog) keyL_stand under_found hs trivial ⟨sl, si⟩ bo
          unfold Sd.agg mpK at hrun
          simp only at hrun
          have HM' := Lib.hid hm'
          have HC' := Lib.hid hc'
          clear hs hm' hc'
          go_wp2
          exact ⟨⟨y.chgd HC'.out (fun k hk => .inr fun _ => hk), rfl⟩, by simpa [upd] using HM'.out⟩
        go_simp
        with_reducible refine hK _ ?_
        clear hK K
        refine lx_nil ?_
        intro y hs
        simp only [cond_true] at hs
        have HWY : Hid (Chg (· = bf) W2 y.world) := Lib.hid (y.chg.mono (by rintro q - ⟨_, e⟩; exact e))
        have HGW : Hid (GoodM gin gout beds W2 bo ⟨sl, si⟩) := Lib.hid (let ⟨lo3, m1, m2⟩ := HOUT.out; ⟨lo3, m1, m2⟩)
        have HFY := Lib.hid (HF.out.put HCW.out HWY.out hs HGW.out hnb)
        have HGY := Lib.hid (HGW.out.chg HWY.out hnb)
        have HMY : Hid (Marks w.heap.size y.world dsn) := Lib.hid (HMK.out.chg HWY.out (fun D' hD e => by
          have := (HMK.out.all D' hD).1
          have e' : D' = bf := e
          omega))
        have HCY : Hid (Chg (· = bf) w y.world) := Lib.hid ((HCW.out.mono (fun _ _ h => h.elim)).trans HWY.out)
        have c7 := (HO7Y.out y).cell 0 (v := .map (some bo)) rfl
        have l7 := (HO7Y.out y).lt
        clear hs y0 y1 y2 y3 y4 hT hne2 lB2 lS3 lkb lO7
        generalize y.world = w9 at *
        gi_wp2
        show LeavesInM _ _ _ _ _ _ (dsn.map markOf) .returning _
        refine ret_mN (v := .map (some bo)) (lo := w.heap.size) (w := w9) dsn w9 .refl HMY.out ?_
        intro W' hsh
        refine ⟨by simp [results, Try.results77, go_sem], bo, _, rfl, HFY.out.shut hsh, ?_, fun y hy => ?_, hsh.chg HCY.out (Nat.le_refl _)⟩
        · obtain ⟨l9, h1, h2⟩ := HGY.out
          exact ⟨l9, hsh.map h1, h2⟩
        · rcases (mem_put HF.out.map.nodup ⟨sl, si⟩ bo y).1 hy with rfl | ⟨h1, -⟩
          · exact .inr (by have h1 := HBO.out; have h2 := HX2.out.size; show w.heap.size ≤ bo; omega)
          · exact .inl h1
end Go.Proofs.Ytmopadnkjlodnaa
