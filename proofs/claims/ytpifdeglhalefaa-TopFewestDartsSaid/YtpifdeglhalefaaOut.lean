/-
  Package out: all: the iterator over all ways out.
-/
import Derived.Test.YtpifdeglhalefaaOus
namespace Go.Proofs.Ytpifdeglhalefaa
open Go.RowKit Go.BigFrame
attribute [local go_sem] Oper.semAt_some Later.cell Later.frozen Lat.cell Lat.frozen NoX
def finV (kb : Nat) (la : Option Addr) (n lc : Nat) (g : Int) (darts s : Nat) : Array Value := #[.pointer (some ⟨kb, 0, none⟩), .slice la n lc, .int .i64 g, .int .i64 darts, .int .i64 s]
/-- The ways with k beds more. -/
def alP (g : Int) (beds : List Int) (rows : List (List Int)) (s : Nat) (k : Nat) : List (List Int) := if 0 < (rows.getD (k + 1) []).getD s 0 then wayO g beds rows (k + 1) s [] else []
def alU (g : Int) (beds : List Int) (rows : List (List Int)) (s : Nat) (k : Nat) : List (List Int) := (List.range k).flatMap (alP g beds rows s)
theorem alU_succ (g : Int) (beds : List Int) (rows : List (List Int)) (s k : Nat) : alU g beds rows s (k + 1) = alU g beds rows s k ++ alP g beds rows s k := by
  unfold alU
  rw [List.range_succ, List.flatMap_append]
  simp
theorem alU_all (g : Int) (beds : List Int) (rows : List (List Int)) (darts s : Nat) : alU g beds rows s darts = allO g beds rows darts s := rfl
theorem alU_mono (g : Int) (beds : List Int) (rows : List (List Int)) (s : Nat) {k d : Nat} (h : k ≤ d) : (alU g beds rows s k).length ≤ (alU g beds rows s d).length := by
  induction h with
  | refl => exact Nat.le_refl _
  | step h ih =>
    rw [alU_succ, List.length_append]
    omega
theorem alU_le (g : Int) (beds : List Int) (rows : List (List Int)) (s : Nat) {k darts : Nat} (h : k ≤ darts) : (alU g beds rows s k).length ≤ (allO g beds rows darts s).length := by
  rw [← alU_all]
  exact alU_mono g beds rows s h
/-- What is known while all ways are handed on. -/
structure AlF (K kb p2 : Nat) (beds : List Int) (g : Int) (rows : List (List Int)) (ba : Option Addr) (bc : Nat) (cv : Value) (la : Option Addr) (n lc darts s : Nat) (W : World) : Prop where
  vd : Vd K W
  b2 : BoxK K W p2 (finV kb la n lc g darts s)
  brd : BdK K W kb beds g rows ba bc cv
theorem AlF.kp {K kb p2 : Nat} {beds : List Int} {g : Int} {rows : List (List Int)} {ba : Option Addr} {bc : Nat} {cv : Value} {la : Option Addr} {n lc darts s : Nat} {A B : World} (h : AlF K kb p2 beds g rows ba bc cv la n lc darts s A) (hk : KpW K A B) : AlF K kb p2 beds g rows ba bc cv la n lc darts s B := ⟨h.vd.kp hk, h.b2.kp hk, h.brd.kp hk⟩
/-- What is known while the ways of one length are handed on. -/
structure GAl (K B2 : Nat) (J J' : World → Prop) (W0 : World) (L : Nat → Bool) (W : World) : Prop where
  kp : KpW K W0 W
  j0 : L 22 = false → J W
  j1 : L 22 = true → J' W
set_option maxRecDepth 100000 in
set_option maxHeartbeats 8000000 in
theorem all_seq (n' K4 kb : Nat) (g : Int) (beds : List Int) (rows : List (List Int)) (ba la : Option Addr) (bc lc : Nat) (cv : Value) (darts s most : Nat) (w : World) (hl : beds.length ≤ 1000) (hv : ∀ x ∈ beds, I64 x ∧ 1 ≤ wrt x ∧ wrt x ≤ 100) (hm : most ≤ 1500) (hs : s ≤ most) (hrw : ∀ r ∈ rows, r.length = most + 1) (hrl : rows.length = darts + 1) (hd : darts ≤ 20) (hvd : Vd K4 w) (hbd : BdK K4 w kb beds g rows ba bc cv) :
    SeqT n' Try.prog 46 #[.agg (finV kb la beds.length lc g darts s)] #[] (encW K4) (fun A B => KpW K4 A B ∧ KeepsFrom (w.heap.size + 2) A B) (fun xs => xs = allO g beds rows darts s) (allO g beds rows darts s).length w := by
  intro l J W hxw hw2 hJ hY h0
  have HWA := Lib.hid (fun k => ways_all K4 W.heap.size (w.heap.size + 2) l kb g beds rows ba bc cv J hJ hl hv most hm hrw (by omega) (allO g beds rows darts s).length (fun m pre way vs W1 hj he hN => YieldAt.anyD rfl m ((hY pre way vs W1 hj he hN).mono fun e W2 h => ⟨h.1, h.2.1, h.2.2.1, h.2.2.2⟩)) k)
  have HJA := Lib.hid hJ
  have HJ := Lib.hid h0
  have HW2 := Lib.hid hw2
  have HRW := Lib.hid hrw
  have HN := Lib.hid (And.intro hs hrl)
  have HVD := Lib.hid (hvd.kp (.of_ext hxw hvd.lt))
  have HBD := Lib.hid (hbd.kp (.of_ext hxw hvd.lt))
  clear hxw hw2 hJ hY h0 hrw hs hrl hvd hbd hv
  unfold finV
  refine callsIn_of_wp Try.func46 rfl trivial ?_ rfl
  simp only [Try.ntmps46, List.size_toArray, List.length_cons, List.length_nil, Nat.reduceAdd, Nat.reduceSub, Array.replicate_succ, Array.replicate_zero, List.push_toArray, List.append_toArray, List.nil_append, List.cons_append]
  gi_upto_region 1 with fail
  generalize hw1 : World.alloc W _ = w1
  have hx1 : Ext W w1 := by rw [← hw1]; exact (Ext.refl W).alloc _
  have HF : Hid (AlF K4 kb W.heap.size beds g rows ba bc cv la beds.length lc darts s w1) := Lib.hid ⟨HVD.out.kp (.of_ext hx1 HVD.out.lt), ⟨by rw [← hw1]; exact Blk.new _ _ _, SafeB.new HVD.out hx1 (Nat.le_refl _) (by rw [← hw1]; simp)⟩, HBD.out.kp (.of_ext hx1 HVD.out.lt)⟩
  have HJ1 := Lib.hid (HJA.out.ext HJ.out hx1)
  have HSZ := Lib.hid hx1.size
  clear hw1 hx1
  obtain ⟨p2, hp2⟩ : ∃ y, y = W.heap.size := ⟨_, rfl⟩
  rw [← hp2]
  rw [← hp2] at HF
  clear hp2
  have c3 := HF.out.b2.1.cell 3 (v := .int .i64 darts) rfl
  have l2 := HF.out.b2.1.lt
  gi_wp2
  gi_loopw [4, 8] (fun _ i wr => ∃ k : Nat, k ≤ darts ∧ i = .int .i64 k ∧ J (alU g beds rows s k) wr ∧ AlF K4 kb p2 beds g rows ba bc cv la beds.length lc darts s wr ∧ W.heap.size ≤ wr.heap.size) (fun _ i _ => darts - (intOf i).toNat)
  case atStart => exact ⟨0, Nat.zero_le _, rfl, HJ1.out, HF.out, HSZ.out⟩
  case round =>
    obtain ⟨k, hk, rfl, hj, hf, hsz⟩ := hrel
    obtain ⟨y, rfl⟩ : ∃ y, y = wr := ⟨_, rfl⟩
    have HJ3 := Lib.hid hj
    have HF3 := Lib.hid hf
    have HSZ3 := Lib.hid hsz
    clear hj hf hsz c3 l2
    by_cases hlt : k < darts
    · have hlt' : (k : Int) < (darts : Int) := by omega
      obtain ⟨cb, cc, rb, ro, rc, rfl, hcells⟩ := HF3.out.brd.at2 (i := k + 1) (by rw [HN.out.2]; omega) (j := s) (by rw [HRW.out _ (List.getElem_mem (by rw [HN.out.2]; omega))]; have := HN.out.1; omega)
      have hkr : k + 1 < rows.length := by rw [HN.out.2]; omega
      have hqr : s < rows[k + 1].length := by rw [HRW.out _ (List.getElem_mem hkr)]; have := HN.out.1; omega
      obtain ⟨cnt, hcnt⟩ : ∃ y, rows[k + 1][s] = y := ⟨_, rfl⟩
      obtain ⟨rn, hrn⟩ : ∃ y, rows[k + 1].length = y := ⟨_, rfl⟩
      have hgd : (rows.getD (k + 1) []).getD s 0 = cnt := by
        rw [← hcnt]
        simp [List.getD_eq_getElem?_getD, hkr, hqr]
      rw [hcnt, hrn] at hcells
      rw [hrn] at hqr
      have HWQ : Hid (alU g beds rows s (k + 1) = alU g beds rows s k ++ if 0 < cnt then wayO g beds rows (k + 1) s [] else []) := Lib.hid (by rw [alU_succ, ← hgd]; rfl)
      have HCE := Lib.hid hcells
      have hkr' : (k : Int) + 1 < (rows.length : Int) := by omega
      have hqr' : (s : Int) < (rn : Int) := by omega
      clear hcells hgd hcnt hrn
      obtain ⟨C, hC⟩ : ∃ y' : World → Prop, y' = fun w' => AlF K4 kb p2 beds g rows ba bc (.slice (some ⟨cb, 0, none⟩) rows.length cc) la beds.length lc darts s w' ∧ KpW K4 y w' := ⟨_, rfl⟩
      have HKC : Hid (∀ w', C w' → AlF K4 kb p2 beds g rows ba bc (.slice (some ⟨cb, 0, none⟩) rows.length cc) la beds.length lc darts s w' ∧ KpW K4 y w') := Lib.hid (fun w' h => by rw [hC] at h; exact h)
      have HCK : Hid (∀ A B, C A → KpW K4 A B → C B) := Lib.hid (fun A B h hk => by rw [hC] at h ⊢; exact ⟨h.1.kp hk, h.2.trans hk⟩)
      have HCS : Hid (Stays C) := Lib.hid (fun A B h hx => HCK.out A B h (.of_ext hx (HKC.out A h).1.vd.lt))
      have HC0 : Hid (C y) := Lib.hid (by rw [hC]; exact ⟨HF3.out, .refl _ _⟩)
      clear hC
      have KY : ∀ y : Fk C, _ := fun y => HKC.out y.world y.ok
      have m0 : ∀ y : Fk C, y.world.cell? ⟨p2, 0, none⟩ = some (.pointer (some ⟨kb, 0, none⟩)) := fun y => (KY y).1.b2.1.cell 0 rfl
      have m4 : ∀ y : Fk C, y.world.cell? ⟨p2, 4, none⟩ = some (.int .i64 s) := fun y => (KY y).1.b2.1.cell 4 rfl
      have mb : ∀ y : Fk C, y.world.cell? ⟨kb, 2, none⟩ = some (.slice (some ⟨cb, 0, none⟩) rows.length cc) := fun y => (KY y).1.brd.blk.cell 2 rfl
      have mc : ∀ y : Fk C, y.world.cell? ⟨cb, k + 1, none⟩ = some (.slice (some ⟨rb, ro, none⟩) rn rc) := fun y => (HCE.out _ (KY y).2).1.1
      have mr : ∀ y : Fk C, y.world.cell? ⟨rb, ro + s, none⟩ = some (.int .i64 cnt) := fun y => (HCE.out _ (KY y).2).1.2
      have HJN := Lib.hid (fun (A B : World) (h : J (alU g beds rows s k) A) (hx : Ext A B) => HJA.out.ext h hx)
      have HJM := Lib.hid (fun (A B : World) (h : J (alU g beds rows s k ++ wayO g beds rows (k + 1) s []) A) (hx : Ext A B) => HJA.out.ext h hx)
      have e1 : ((k : Int) + 1).toNat = k + 1 := by omega
      cases hpos : decide (0 < cnt) with
      | false =>
        have HE : Hid (alU g beds rows s (k + 1) = alU g beds rows s k) := Lib.hid (by rw [HWQ.out, if_neg (by simpa using hpos), List.append_nil])
        gi_upto_region 4 with fail
        refine wpIn_fk (by kernel_rfl) C (fun _ => false) (fun _ _ => True) (fun _ _ w' => J (alU g beds rows s k) w') (by kernel_rfl) (fun k hk => by cases hk) (fun _ _ _ _ _ h => h) (fun _ _ _ _ h hx => HJN.out _ _ h hx) (HCS.out _ _ HC0.out (Ext.refl y).drew) (fun _ => undef) (fun _ _ => trivial) (HJN.out _ _ HJ3.out (Ext.refl y).drew) ?_
        intro T hT hne2 u hu
        refine lx_next 25 (by rfl) (by decide) ?_
        dsimp only [List.take, List.drop]
        repeat (go_big_quiet_step (fail))
        refine wpQuiet_nil ?_
        refine lx_nil ?_
        intro y2 hs
        have HT := Lib.hid hs
        have HY2 := Lib.hid (KY y2)
        clear hs hu hT hne2 m0 m4 mb mc mr KY
        generalize y2.world = w9 at *
        clear y2
        gi_wp2
        go_roundw
        case rel => exact ⟨k + 1, by omega, by go_num, by rw [HE.out]; exact HT.out, HY2.out.1, Nat.le_trans HSZ3.out HY2.out.2.size⟩
        case measure => simp [intOf]; omega
      | true =>
        have HE : Hid (alU g beds rows s (k + 1) = alU g beds rows s k ++ wayO g beds rows (k + 1) s []) := Lib.hid (by rw [HWQ.out, if_pos (by simpa using hpos)])
        gi_upto_region 4 with fail
        refine wpIn_fk (by kernel_rfl) C (fun k => k == 22) (fun k v => k = 22 → v = .bool true) (fun L _ w' => GAl K4 (w.heap.size + 2) (J (alU g beds rows s k)) (J (alU g beds rows s k ++ wayO g beds rows (k + 1) s [])) y L w') (by kernel_rfl) (fun k hk => by
            simp only [beq_iff_eq] at hk
            rcases hk with rfl; decide) (fun L L' u w' h hg => ⟨hg.kp, by rw [h 22 rfl]; exact hg.j0, by rw [h 22 rfl]; exact hg.j1⟩) (fun L u a b h hx => ⟨h.kp.trans (.of_ext hx (Nat.lt_of_lt_of_le HF3.out.vd.lt h.kp.size)), fun e => HJN.out _ _ (h.j0 e) hx, fun e => HJM.out _ _ (h.j1 e) hx⟩) (HCS.out _ _ HC0.out (Ext.refl y).drew) (fun _ => .bool true) (fun _ _ _ => rfl) ⟨.of_ext (Ext.refl y).drew HF3.out.vd.lt, fun _ => HJN.out _ _ HJ3.out (Ext.refl y).drew, fun h => absurd h (by decide)⟩ ?_
        intro T hT hne2 u hu
        have e_22 : u 22 = .bool true := hu 22 rfl rfl
        refine lx_next 22 (by rfl) (by decide) ?_
        dsimp only [List.take, List.drop]
        repeat (go_big_quiet_step (fail))
        refine wpQuiet_nil ?_
        refine lx_loud (by rfl) (by kernel_rfl) ?_ (fun K hK => ?_)
        · intro L w4 hL hd2 hcl hC hs
          obtain ⟨y2, rfl⟩ := hC
          have hcall := HWA.out (k + 1) s [] none 0 (alU g beds rows s k) y2.world HN.out.1 (by omega) (by simp; omega) (Nat.le_trans HSZ3.out (KY y2).2.size) (by have h1 := HW2.out; have h2 := HSZ3.out; have h3 := (KY y2).2.size; omega) (KY y2).1.vd (KY y2).1.brd (.inl ⟨rfl, rfl⟩) (hs.j0 hL) (by have h := alU_le g beds rows s (show k + 1 ≤ darts by omega); rw [HE.out, List.length_append] at h; exact h)
          rw [show ((k + 1 : Nat) : Int) = (k : Int) + 1 by omega] at hcall
          have HCALL := Lib.hid hcall
          have HS := Lib.hid hs
          have HYC := Lib.hid y2.ok
          clear hs hd2 hcl hL hcall m0 m4 mb mc mr KY
          go_wp2_with fail
          refine HCALL.out.mono ?_
          rintro e w6 ⟨rfl, hj6, hk6, hf6⟩
          have HJ6 := Lib.hid hj6
          have HK6 := Lib.hid hk6
          clear hj6 hk6 hf6
          go_wp2
          exact ⟨rfl, ⟨⟨_, HCK.out _ _ HYC.out HK6.out⟩, rfl⟩, ⟨HS.out.kp.trans HK6.out, fun h => Bool.noConfusion (show true = false from h), fun _ => HJ6.out⟩⟩
        rw [e_22]
        go_simp
        with_reducible refine hK _ ?_
        clear hK K
        refine lx_next 2 (by rfl) (by decide) ?_
        dsimp only [List.take, List.drop]
        repeat (go_big_quiet_step (fail))
        refine wpQuiet_nil ?_
        refine lx_nil ?_
        intro y2 hs
        have HT := Lib.hid hs
        have HY2 := Lib.hid (KY y2)
        clear hs hu hT hne2 m0 m4 mb mc mr KY
        generalize y2.world = w9 at *
        clear y2
        gi_wp2
        go_roundw
        case rel => exact ⟨k + 1, by omega, by go_num, by rw [HE.out]; exact HT.out.j1 rfl, HY2.out.1, Nat.le_trans HSZ3.out HY2.out.2.size⟩
        case measure => simp [intOf]; omega
    · obtain rfl : darts = k := by omega
      gi_wp2
      refine bodyPost_end (results_none rfl _ _ _) rfl ⟨⟨_, rfl⟩, _, rfl, HJ3.out⟩
end Go.Proofs.Ytpifdeglhalefaa
