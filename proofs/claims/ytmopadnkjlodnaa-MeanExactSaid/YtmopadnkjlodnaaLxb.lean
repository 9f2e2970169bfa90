/-
  MeanExact, walked.
-/
import Derived.Test.YtmopadnkjlodnaaLxa
import Derived.Test.YtmopadnkjlodnaaRhg
import Derived.Deep.CutBlock
namespace Go.Proofs.Ytmopadnkjlodnaa
open Go.RowKit Go.BigFrame
attribute [local go_sem] Later.cell Later.frozen
/-- What a leg that is told dart by dart hands back, by parts. -/
def ResB (T : Tot) (S G O : Int) (bds scs : List Int) (Wn : Bool) (A E : Int) (e : Ending) (W : World) : Prop := ∃ a1 c1 s1 d1, e = .returned (.tuple #[.agg #[.int .i64 T.legs, .int .i64 T.won, .int .i64 T.visits, .int .i64 T.points, .int .i64 T.darts.lo, .int .i64 T.darts.hi, .int .i64 T.tried.lo, .int .i64 T.tried.hi, .int .i64 T.tons, .int .i64 T.highs, .int .i64 T.tops, .int .i64 T.best], .agg #[.int .i64 S, .int .i64 G, .int .i64 O, .slice a1 bds.length c1, .slice s1 scs.length d1, .bool Wn], .int .i64 A, .int .i64 E]) ∧ BedA W a1 c1 bds ∧ CellsAt W .i64 s1 scs
theorem exa_res (start gin gout : Int) (beds : List Int) (r : Exa ⊕ (Int × Int)) (hi : ∀ x ∈ beds, I64 x) (hl : ∀ x, r = .inl x → x.scores.length ≤ 1000) : ∃ T S G O bds scs Wn A E, (∀ base e W, ExaA start gin gout beds r base e W → ResB T S G O bds scs Wn A E e W) ∧ bds.length ≤ beds.length ∧ scs.length ≤ 1000 := by
  cases r with
  | inr p =>
    obtain ⟨at_, er⟩ := p
    refine ⟨tot0, 0, 0, 0, [], [], false, at_, er, fun base e W h => ⟨none, 0, none, 0, ?_, ⟨CellsAt.nil _ _ _, fun _ => ⟨rfl, rfl⟩, ⟨Nat.le_refl _, Nat.zero_le _⟩, fun x hx => by cases hx⟩, CellsAt.nil _ _ _⟩, Nat.zero_le _, Nat.zero_le _⟩
    exact h
  | inl x =>
    refine ⟨x.t, start, gin, gout, beds, x.scores, x.won, 0, 0, fun base e W h => ?_, Nat.le_refl _, hl x rfl⟩
    obtain ⟨la, lc, sa, sc, h1, h2, h3⟩ := h
    refine ⟨la, lc, sa, sc, h1, BedA.own h2 hi, ?_⟩
    obtain ⟨_, _, e1, h4⟩ := h3.cells
    cases e1
    exact h4
theorem exaG_len {start gin gout : Int} {beds : List Int} : ∀ (vs : List (List Int)) (i : Nat) (e x : Exa), exaG start gin gout beds vs i e = .inl x → x.scores.length = e.scores.length + vs.length
  | [], _, e, x, h => by injection h with h; subst h; rfl
  | v :: vs, i, e, x, h => by
    unfold exaG at h
    split at h
    · have := exaG_len vs (i + 1) _ x h
      rw [this]
      show (e.scores ++ [_]).length + _ = _
      simp
      omega
    · cases h
theorem exaF_len {start gin gout : Int} {beds : List Int} {vs : List (List Int)} {x : Exa} (h : exaF start gin gout beds vs = .inl x) : x.scores.length ≤ 1000 := by
  unfold exaF at h
  split at h
  · cases h
  · split at h
    · cases h
    · have := exaG_len _ _ _ _ h
      have e : (exa0 start).scores.length = 0 := rfl
      omega
set_option maxRecDepth 100000 in
set_option maxHeartbeats 8000000 in
theorem law_exact (HK : Hid Knows) (start gin gout : Int) (beds : List Int) (ba : Option Addr) (bc : Nat) (vs : List (List Int)) (va : Option Addr) (vc : Nat) (w : World) (hst : I64 start) (hB : BedA w ba bc beds) (hV : VsA w va vs) :
    Calls Try.prog 6 #[.agg #[.int .i64 start, .int .i64 gin, .int .i64 gout], .slice ba beds.length bc, .slice va vs.length vc] w fun e w' => e = .returned (.bool true) ∧ Ext w w' := by
  have HB := Lib.hid hB
  have HV := Lib.hid hV
  have HST := Lib.hid hst
  clear hB hV hst
  go_enter Try.func6, Try.ntmps6
  by_cases hb : 85 < beds.length
  case pos =>
    have hb' : (85 : Int) < (beds.length : Int) := by omega
    go_wp2_with fail
    refine (HK.out _).mono ?_
    rintro e w2 ⟨rfl, hx2⟩
    go_wp2
    go_ret
    exact ⟨rfl, ((Ext.refl w).alloc _).trans hx2⟩
  by_cases hv : 105 < vs.length
  case pos =>
    have hv' : (105 : Int) < (vs.length : Int) := by omega
    have hb' : ¬ (85 : Int) < (beds.length : Int) := by omega
    go_wp2_with fail
    refine (HK.out _).mono ?_
    rintro e w2 ⟨rfl, hx2⟩
    go_wp2
    go_ret
    exact ⟨rfl, ((Ext.refl w).alloc _).trans hx2⟩
  have HBL : Hid (beds.length ≤ 85) := Lib.hid (by omega)
  have HVL : Hid (vs.length ≤ 105) := Lib.hid (by omega)
  have hb' : ¬ (85 : Int) < (beds.length : Int) := by omega
  have hv' : ¬ (105 : Int) < (vs.length : Int) := by omega
  go_upto_region 3 with fail
  clear hb' hv' hb hv
  generalize hw1 : World.alloc w _ = w1
  obtain ⟨B, hBB⟩ : ∃ y, y = w.heap.size := ⟨_, rfl⟩
  rw [← hBB]
  have HX1 : Hid (Ext w w1) := Lib.hid (by rw [← hw1]; exact (Ext.refl w).alloc _)
  have K1 : Hid (Blk w1 B #[.int .i64 start, .int .i64 gin, .int .i64 gout]) := Lib.hid (by rw [← hw1, hBB]; exact Blk.new w _ _)
  clear hw1 hBB
  have HE : Hid (OwnD (w1.alloc (.cells #[] 99)) w1.heap.size (.slice (some ⟨w1.heap.size, 0, none⟩) 0 0) []) := Lib.hid (own_empty rfl (Nat.le_refl _))
  go_wp2_with (at_builtin; refine wp_append_vals rfl _ _ 25 99 (.int .i64 0) 1 8 rfl info_bed (by kernel_rfl) rfl (by decide) w1.heap.size _ 0 [] rfl HE.out ba beds.length bc (beds.map (Value.int .i64)) rfl HB.out.nil (by simp) (CellsAt.vals ((HB.out.cells.ext HX1.out).ext ((Ext.refl w1).alloc _))) (ints_one _ _) (by have := HBL.out; omega) (by omega) (by simp) ?_)
  intro v' w5 hO5 hg5
  have hE5 := Chg.to_ext ((Ext.refl w1).alloc (.cells #[] 99)) (grown_chg hg5) (fun i e => (World.ownsRow.lt HE.out i e).1)
  have hO5 : OwnD w5 w1.heap.size v' beds := by simpa [OwnD] using hO5
  obtain ⟨ia, ic, rfl⟩ := own_shape hO5
  have HO5 : Hid (OwnD w5 w1.heap.size (.slice ia beds.length ic) beds) := Lib.hid hO5
  have HX5 := Lib.hid (HX1.out.trans hE5)
  have K5 := Lib.hid (K1.out.ext hE5)
  clear hO5 hg5 hE5 HE
  go_wp2
  go_loopw [8, 9] (fun s i wr => ∃ (k : Nat) (sa : Option Addr) (sc : Nat), k ≤ vs.length ∧ s = .slice sa k sc ∧ i = .int .i64 k ∧ WaysAt wr w5.heap.size (.slice sa k sc) (vs.take k) ∧ (∀ v ∈ vs.take k, v.length ≤ 6) ∧ Ext w5 wr) (fun _ i _ => vs.length - (intOf i).toNat)
  case atStart => exact ⟨0, _, _, Nat.zero_le _, rfl, rfl, ⟨[], own_empty rfl (Nat.le_refl _), rfl, fun i hi => absurd hi (by simp)⟩, (fun v hv => by simp at hv), (Ext.refl w5).alloc _⟩
  case round =>
    obtain ⟨k, sa, sc, hk, rfl, rfl, hW, h6, hx⟩ := hrel
    have HW := Lib.hid hW
    have H6 := Lib.hid h6
    have HXr := Lib.hid hx
    have hvl := HVL.out
    clear hW h6 hx
    by_cases hlt : k < vs.length
    · obtain ⟨bb, bo, ra, rc, rfl, hcell, hbed⟩ := HV.out k hlt
      have HTK := Lib.hid (List.take_succ_eq_append_getElem hlt)
      have HMEM := Lib.hid (List.getElem_mem hlt)
      obtain ⟨x, hx⟩ : ∃ x, vs[k] = x := ⟨_, rfl⟩
      rw [hx] at hcell hbed HTK HMEM
      have HC := Lib.hid ((HX5.out.trans HXr.out).cell hcell)
      have HBX := Lib.hid (hbed.ext (HX5.out.trans HXr.out))
      have c0 := HC.out
      have cl := lt_of_cell c0
      simp only at cl
      clear hx hcell hbed
      by_cases hx6 : 6 < x.length
      case pos =>
        have hx6' : (6 : Int) < (x.length : Int) := by omega
        go_wp2_with fail
        refine (HK.out _).mono ?_
        rintro e w7 ⟨rfl, hx7⟩
        go_wp2
        go_ret
        exact ⟨rfl, (HX5.out.trans HXr.out).trans hx7⟩
      have hx6' : ¬ (6 : Int) < (x.length : Int) := by omega
      have HX6 : Hid (x.length ≤ 6) := Lib.hid (by omega)
      have HE : Hid (OwnD (wr.alloc (.cells #[] 99)) w5.heap.size (.slice (some ⟨wr.heap.size, 0, none⟩) 0 0) []) := Lib.hid (own_empty rfl HXr.out.size)
      have HSZ := Lib.hid HXr.out.size
      clear hx6
      go_wp2_with (at_builtin; refine wp_append_vals rfl _ _ 25 99 (.int .i64 0) 1 8 rfl info_bed (by kernel_rfl) rfl (by decide) w5.heap.size _ 0 [] rfl HE.out ra x.length rc (x.map (Value.int .i64)) rfl HBX.out.nil (by simp) (CellsAt.vals (HBX.out.cells.ext ((Ext.refl wr).alloc _))) (ints_one _ _) (by have := HX6.out; omega) (by omega) (by have := HSZ.out; simp; omega) ?_)
      intro v7 w7 hO7 hg7
      have hE7 := Chg.to_ext ((Ext.refl wr).alloc (.cells #[] 99)) (grown_chg hg7) (fun i e => by cases e; exact Nat.le_refl _)
      have hO7 : OwnD w7 w5.heap.size v7 x := by simpa [OwnD] using hO7
      obtain ⟨xa, xc, rfl⟩ := own_shape hO7
      have HO7 : Hid (OwnD w7 w5.heap.size (.slice xa x.length xc) x) := Lib.hid hO7
      have HX7 := Lib.hid hE7
      have HW7 := Lib.hid (HW.out.ext hE7)
      clear hO7 hg7 hE7 HE c0 cl hx6'
      obtain ⟨vals, hv1, hv2, hv3⟩ := HW7.out.ext ((Ext.refl w7).alloc (.cells #[.slice xa x.length xc] 25))
      rw [List.length_take, Nat.min_eq_left hk] at hv1
      have HV1 := Lib.hid hv1
      have HV2 := Lib.hid hv2
      have HV3 := Lib.hid hv3
      have HSZ7 := Lib.hid (Nat.le_trans HSZ.out HX7.out.size)
      clear hv1 hv2 hv3
      go_wp2_with (at_builtin; refine wp_append_vals rfl _ _ 46 25 (.slice none 0 0) 1 24 rfl info_beds (by kernel_rfl) rfl (by decide) w5.heap.size _ k vals rfl HV1.out (some ⟨w7.heap.size, 0, none⟩) 1 1 [.slice xa x.length xc] rfl (fun h => by cases h) rfl ?_ ?_ (by omega) (by omega) (by have := HSZ7.out; simp; omega) ?_)
      · intro ad had j u hj
        cases had
        match j, hj with
        | 0, hj => cases hj; rw [addr_add]; exact (Blk.new w7 _ _).cell 0 rfl
      · intro u hu
        cases hu with
        | head => rfl
        | tail _ h => cases h
      intro v8 w8 hO8 hg8
      have hlen : (vs.take k).length = k := by rw [List.length_take, Nat.min_eq_left hk]
      have hw8 : WaysAt w8 w5.heap.size v8 (vs.take k ++ [x]) := WaysAt.snoc (by rw [hlen]; exact HV1.out) HV2.out HV3.out (HO7.out.ext ((Ext.refl w7).alloc _)) (by rw [hlen]; exact hO8) (grown_chg hg8)
      have hX8 : Ext w5 w8 := Chg.to_ext ((HXr.out.trans HX7.out).alloc _) (grown_chg hg8) (fun i e => (World.ownsRow.lt HV1.out i e).1)
      rw [← HTK.out] at hw8
      have hsh : ∃ a c, v8 = .slice a (k + 1) c := by
        obtain ⟨a, c, e⟩ := hw8.shape
        rw [List.length_take, Nat.min_eq_left hlt] at e
        exact ⟨a, c, e⟩
      obtain ⟨ta, tc, rfl⟩ := hsh
      have HW8 := Lib.hid hw8
      have HX8 := Lib.hid hX8
      have H68 : Hid (∀ v ∈ vs.take (k + 1), v.length ≤ 6) := Lib.hid (by
        rw [HTK.out]
        intro v hv
        rcases List.mem_append.1 hv with h | h
        · exact H6.out v h
        · rw [List.mem_singleton.1 h]; exact HX6.out)
      clear hlen hO8 hg8 hw8 hX8
      go_wp2
      go_roundw
      case rel => exact ⟨k + 1, ta, tc, by omega, rfl, by go_num, HW8.out, H68.out, HX8.out⟩
      case measure => simp [intOf]; omega
    · obtain rfl : k = vs.length := by omega
      have hw0 := HW.out
      have h60 := H6.out
      rw [List.take_of_length_le (Nat.le_refl _)] at hw0 h60
      have hI : ∀ x ∈ vs, ∀ y ∈ x, I64 y := fun x hx => by
        obtain ⟨i, hi, rfl⟩ := List.mem_iff_getElem.1 hx
        obtain ⟨_, _, _, _, _, _, hb⟩ := HV.out i hi
        exact hb.i64
      obtain ⟨_, _, e, hva⟩ := ways_vsa hw0 hI
      cases e
      have HVA := Lib.hid (hva.vss (fun v hv => Nat.le_trans (h60 v hv) (by omega)))
      have HVB := Lib.hid ((HV.out.ext (HX5.out.trans HXr.out)).vss (fun v hv => Nat.le_trans (h60 v hv) (by omega)))
      have HIN := Lib.hid (HO5.out.ext HXr.out)
      obtain ⟨r, hr⟩ : ∃ y, exaF start gin gout beds vs = y := ⟨_, rfl⟩
      obtain ⟨T, S, G, O, bds, scs, Wn, A, E, hres, hbl, hsl⟩ := exa_res start gin gout beds r HB.out.i64 (fun x hx => exaF_len (hr.trans hx))
      have HRES := Lib.hid hres
      have HBDL : Hid (bds.length ≤ 1000 ∧ scs.length ≤ 1000) := Lib.hid (by have := HBL.out; omega)
      have hme := mean_Exact start gin gout beds ia ic vs sa sc wr HST.out (HIN.out.rd (fun _ _ h => h)) HB.out.i64 HVA.out (by omega)
      have hrx := fun W (hx : Ext wr W) => ref_Exact start gin gout beds ba bc vs va vc W (HB.out.cells.ext ((HX5.out.trans HXr.out).trans hx)) HB.out.nil HB.out.i64 (by have := HBL.out; omega) (HVB.out.ext hx) (by omega)
      rw [← exa_ref] at hrx
      rw [hr] at hme hrx
      have HME := Lib.hid hme
      have HRX := Lib.hid hrx
      have HSM1 := Lib.hid (fun W (hx : Ext wr W) => ref_Same vs vs sa va sc vc W (HVA.out.ext hx) (HVB.out.ext hx) (by have := HVL.out; omega))
      rw [show decide (vs = vs) = true from decide_eq_true rfl] at HSM1
      have HI := Lib.hid hI
      have K6 := Lib.hid (K5.out.ext HXr.out)
      have HXw := Lib.hid (HX5.out.trans HXr.out)
      clear hw0 h60 hI hva hr hres hbl hsl hme hrx hk
      have k0 := K6.out.cell 0 (v := .int .i64 start) rfl
      have k1 := K6.out.cell 1 (v := .int .i64 gin) rfl
      have k2 := K6.out.cell 2 (v := .int .i64 gout) rfl
      have kl := K6.out.lt
      go_wp2_with fail
      refine HME.out.mono ?_
      rintro e w7 ⟨hA, hx7⟩
      obtain ⟨a1, c1, s1, d1, rfl, hb1, hs1⟩ := HRES.out _ _ _ hA
      have HX7 := Lib.hid hx7
      have HB1 := Lib.hid hb1
      have HS1 := Lib.hid hs1
      clear hA hx7 hb1 hs1 k0 k1 k2 kl HME
      go_wp2_with fail
      obtain ⟨D, hD⟩ : ∃ y, y = w7.heap.size := ⟨_, rfl⟩
      have hK10 : Blk ((w7.alloc (.cells #[.int .i64 T.legs, .int .i64 T.won, .int .i64 T.visits, .int .i64 T.points, .int .i64 T.darts.lo, .int .i64 T.darts.hi, .int .i64 T.tried.lo, .int .i64 T.tried.hi, .int .i64 T.tons, .int .i64 T.highs, .int .i64 T.tops, .int .i64 T.best] 55)).alloc (.cells #[.int .i64 S, .int .i64 G, .int .i64 O, .slice a1 bds.length c1, .slice s1 scs.length d1, .bool Wn] 28)) D #[.int .i64 T.legs, .int .i64 T.won, .int .i64 T.visits, .int .i64 T.points, .int .i64 T.darts.lo, .int .i64 T.darts.hi, .int .i64 T.tried.lo, .int .i64 T.tried.hi, .int .i64 T.tons, .int .i64 T.highs, .int .i64 T.tops, .int .i64 T.best] := by rw [hD]; exact (Blk.new w7 _ _).alloc _
      have hK11 : Blk ((w7.alloc (.cells #[.int .i64 T.legs, .int .i64 T.won, .int .i64 T.visits, .int .i64 T.points, .int .i64 T.darts.lo, .int .i64 T.darts.hi, .int .i64 T.tried.lo, .int .i64 T.tried.hi, .int .i64 T.tons, .int .i64 T.highs, .int .i64 T.tops, .int .i64 T.best] 55)).alloc (.cells #[.int .i64 S, .int .i64 G, .int .i64 O, .slice a1 bds.length c1, .slice s1 scs.length d1, .bool Wn] 28)) (D + 1) #[.int .i64 S, .int .i64 G, .int .i64 O, .slice a1 bds.length c1, .slice s1 scs.length d1, .bool Wn] := Blk.at _ (by simp [hD])
      have hX8 : Ext w7 ((w7.alloc (.cells #[.int .i64 T.legs, .int .i64 T.won, .int .i64 T.visits, .int .i64 T.points, .int .i64 T.darts.lo, .int .i64 T.darts.hi, .int .i64 T.tried.lo, .int .i64 T.tried.hi, .int .i64 T.tons, .int .i64 T.highs, .int .i64 T.tops, .int .i64 T.best] 55)).alloc (.cells #[.int .i64 S, .int .i64 G, .int .i64 O, .slice a1 bds.length c1, .slice s1 scs.length d1, .bool Wn] 28)) := ((Ext.refl w7).alloc _).alloc _
      have hn8 : D + 1 + 1 = ((w7.alloc (.cells #[.int .i64 T.legs, .int .i64 T.won, .int .i64 T.visits, .int .i64 T.points, .int .i64 T.darts.lo, .int .i64 T.darts.hi, .int .i64 T.tried.lo, .int .i64 T.tried.hi, .int .i64 T.tons, .int .i64 T.highs, .int .i64 T.tops, .int .i64 T.best] 55)).alloc (.cells #[.int .i64 S, .int .i64 G, .int .i64 O, .slice a1 bds.length c1, .slice s1 scs.length d1, .bool Wn] 28)).heap.size := by simp [hD]
      rw [← hD]
      generalize World.alloc (World.alloc w7 _) _ = w8 at *
      have K10 := Lib.hid hK10
      have K11 := Lib.hid hK11
      have HX8 := Lib.hid (HX7.out.trans hX8)
      have HX78 := Lib.hid hX8
      have hbl : beds.length ≤ 1000 := by have := HBL.out; omega
      have hv1 := (vss_one 25 hn8 (BedA.own (HIN.out.ext HX8.out) HB.out.i64) hbl).ext ((Ext.refl _).alloc (.cells #[.slice ba beds.length bc] 25))
      have hv2 := vss_one (w := w8.alloc (.cells #[.slice ia beds.length ic] 25)) (n := D + 1 + 1 + 1) 25 (by simp [hn8]) ((HB.out.ext (HXw.out.trans HX8.out)).ext ((Ext.refl _).alloc _)) hbl
      have hsm := ref_Same [beds] [beds] _ _ 1 1 _ hv1 hv2 (by simp)
      rw [show decide ([beds] = [beds]) = true from decide_eq_true rfl] at hsm
      have HD := Lib.hid hD
      clear hK10 hK11 hX8 hn8 hD hv1 hv2
      refine hsm.mono ?_
      rintro e w9 ⟨rfl, hx9⟩
      have HX89 := Lib.hid ((((Ext.refl w8).alloc (.cells #[.slice ia beds.length ic] 25)).alloc (.cells #[.slice ba beds.length bc] 25)).trans hx9)
      have HX9 := Lib.hid (HX8.out.trans HX89.out)
      clear hx9 hsm hbl
      go_wp2_with fail
      refine (HSM1.out _ HX9.out).mono ?_
      rintro e w10 ⟨rfl, hx10⟩
      have HX10 := Lib.hid (HX9.out.trans hx10)
      have HX810 := Lib.hid (HX89.out.trans hx10)
      have k0 := (K6.out.ext HX10.out).cell 0 (v := .int .i64 start) rfl
      have k1 := (K6.out.ext HX10.out).cell 1 (v := .int .i64 gin) rfl
      have k2 := (K6.out.ext HX10.out).cell 2 (v := .int .i64 gout) rfl
      have kl := (K6.out.ext HX10.out).lt
      clear hx10 HSM1
      go_wp2_with fail
      refine (HRX.out _ HX10.out).mono ?_
      rintro e w11 ⟨hA, hx11⟩
      obtain ⟨a2, c2, s2, d2, rfl, hb2, hs2⟩ := HRES.out _ _ _ hA
      have HX811 := Lib.hid (HX810.out.trans hx11)
      have HX11 := Lib.hid (HX10.out.trans hx11)
      have HB2 := Lib.hid hb2
      have HS2 := Lib.hid hs2
      have HT1 := Lib.hid (K10.out.ext HX811.out)
      have HL1 := Lib.hid (K11.out.ext HX811.out)
      clear hA hx11 hb2 hs2 k0 k1 k2 kl HRX HRES
      have t0 := HT1.out.cell 0 (v := .int .i64 T.legs) rfl
      have t1 := HT1.out.cell 1 (v := .int .i64 T.won) rfl
      have t2 := HT1.out.cell 2 (v := .int .i64 T.visits) rfl
      have t3 := HT1.out.cell 3 (v := .int .i64 T.points) rfl
      have t4 := HT1.out.cell 4 (v := .int .i64 T.darts.lo) rfl
      have t5 := HT1.out.cell 5 (v := .int .i64 T.darts.hi) rfl
      have t6 := HT1.out.cell 6 (v := .int .i64 T.tried.lo) rfl
      have t7 := HT1.out.cell 7 (v := .int .i64 T.tried.hi) rfl
      have t8 := HT1.out.cell 8 (v := .int .i64 T.tons) rfl
      have t9 := HT1.out.cell 9 (v := .int .i64 T.highs) rfl
      have t10 := HT1.out.cell 10 (v := .int .i64 T.tops) rfl
      have t11 := HT1.out.cell 11 (v := .int .i64 T.best) rfl
      have tl := HT1.out.lt
      have l0 := HL1.out.cell 0 (v := .int .i64 S) rfl
      have l1 := HL1.out.cell 1 (v := .int .i64 G) rfl
      have l2 := HL1.out.cell 2 (v := .int .i64 O) rfl
      have l3 := HL1.out.cell 3 (v := .slice a1 bds.length c1) rfl
      have l4 := HL1.out.cell 4 (v := .slice s1 scs.length d1) rfl
      have l5 := HL1.out.cell 5 (v := .bool Wn) rfl
      have ll := HL1.out.lt
      have he : ∀ W', (Op.equalIn 10000 55 (.agg #[.int .i64 T.legs, .int .i64 T.won, .int .i64 T.visits, .int .i64 T.points, .int .i64 T.darts.lo, .int .i64 T.darts.hi, .int .i64 T.tried.lo, .int .i64 T.tried.hi, .int .i64 T.tons, .int .i64 T.highs, .int .i64 T.tops, .int .i64 T.best]) (.agg #[.int .i64 T.legs, .int .i64 T.won, .int .i64 T.visits, .int .i64 T.points, .int .i64 T.darts.lo, .int .i64 T.darts.hi, .int .i64 T.tried.lo, .int .i64 T.tried.hi, .int .i64 T.tons, .int .i64 T.highs, .int .i64 T.tops, .int .i64 T.best])).run Try.prog W' = .ok true W' := fun W' => eqTot _ _ _ _ _ _ _ _ _ _ _ _ W'
      go_wp2_with fail
      have hun := law_unchanged S G O Wn bds scs a1 a2 s1 s2 c1 c2 d1 d2 ((w11.alloc (.cells #[.int .i64 T.legs, .int .i64 T.won, .int .i64 T.visits, .int .i64 T.points, .int .i64 T.darts.lo, .int .i64 T.darts.hi, .int .i64 T.tried.lo, .int .i64 T.tried.hi, .int .i64 T.tons, .int .i64 T.highs, .int .i64 T.tops, .int .i64 T.best] 55)).alloc (.cells #[.int .i64 S, .int .i64 G, .int .i64 O, .slice a2 bds.length c2, .slice s2 scs.length d2, .bool Wn] 28)) ((HB1.out.ext (HX78.out.trans HX811.out)).ext (((Ext.refl w11).alloc _).alloc _)) (HB2.out.ext (((Ext.refl w11).alloc _).alloc _)) ((HS1.out.ext (HX78.out.trans HX811.out)).ext (((Ext.refl w11).alloc _).alloc _)) (HS2.out.ext (((Ext.refl w11).alloc _).alloc _)) HBDL.out.1 (by have := HBDL.out.2; omega)
      refine hun.mono ?_
      rintro e w12 ⟨rfl, hx12⟩
      have HX12 := Lib.hid ((((HXw.out.trans HX11.out).alloc _).alloc _).trans hx12)
      clear hx12 hun t0 t1 t2 t3 t4 t5 t6 t7 t8 t9 t10 t11 tl l0 l1 l2 l3 l4 l5 ll he
      go_wp2_with fail
      refine (HK.out _).mono ?_
      rintro e w13 ⟨rfl, hx13⟩
      go_wp2
      go_ret
      exact ⟨rfl, HX12.out.trans hx13⟩
end Go.Proofs.Ytmopadnkjlodnaa
