/-
  The reference's Step, walked.
-/
import Derived.Test.YtocnglplhnhllaaStr
import Derived.Test.YtocnglplhnhllaaRfb
import Derived.Test.YtocnglplhnhllaaDos
import Derived.Deep.DeepCutAuto
namespace Go.Proofs.Ytocnglplhnhllaa
open Go.RowKit Go.BigFrame
attribute [local go_sem] Later.cell Later.frozen Lat.cell Lat.frozen
set_option maxRecDepth 100000 in
set_option maxHeartbeats 16000000 in
theorem ref_Step (r : Rul) (g : Gm) (gv : Value) (k : Nat) (ca : Option Addr) (cc : Nat) (p : Int) (beds : List Int) (ba : Option Addr) (bc : Nat) (w : World) (hr : r.ok = true) (hG : RefAt w gv r g k) (hI : g.Ok r k) (hk : k ≤ 3000)
    (hC : CntsAt w ca r.counts) (hb : CellsAt w .i64 ba beds) (hbi : ∀ x ∈ beds, I64 x) (hbl : beds.length ≤ 9223372036854775807) (S : Gm × Int × Int) (hS : g.step r p beds = S) :
    Calls Try.prog 51 #[.agg #[.slice ca r.counts.length cc, .int .i64 r.first, .int .i64 r.rounds, .bool r.equal], gv, .agg #[.int .i64 p, .slice ba beds.length bc]] w (StpP w r k gv S) := by
  obtain ⟨la, da, ia, wa, ea, lc, dc, ic, wc', ec, E, ls, rfl, hRC, hRI⟩ := hG
  have HRC := Lib.hid hRC
  have HRI := Lib.hid hRI
  have HC := Lib.hid hC
  have HB := Lib.hid hb
  have HBI := Lib.hid hbi
  have HS := Lib.hid hS
  have HI := Lib.hid hI
  have hlen := Rul.ok_length hr
  have HR := Lib.hid hr
  clear hRC hRI hC hb hbi hS hI hr
  obtain ⟨cs, hcs⟩ : ∃ cs, legG g la da ia wa ea lc dc ic wc' ec E ls = cs := ⟨_, rfl⟩
  have hsz : cs.size = 17 := by rw [← hcs]; rfl
  have hone : cs.all (·.oneCell') = true := by rw [← hcs]; exact legG_one ..
  have HCS := Lib.hid hcs
  have hav : ∀ b, Avd (.agg cs) b → (∀ a, wa = some a → a.block ≠ b) ∧ (∀ a, ea = some a → a.block ≠ b) := by rw [← hcs]; exact fun b h => h.of
  have HAV := Lib.hid hav
  clear hav
  have HONE := Lib.hid hone
  clear hone
  rw [hcs]
  clear hcs
  generalize hn : r.counts.length = n at *
  have HN := Lib.hid hn
  clear hn
  go_enter Try.func51, Try.ntmps51
  have HSZ := Lib.hid hsz
  clear hsz
  go_upto_region 1 with fail
  generalize hW : World.alloc _ _ = W
  have hE : Ext w W := by rw [← hW]; exact ((((Ext.refl w).alloc _).alloc _).alloc _).alloc _
  have h3 : Blk W w.heap.size #[.slice ca n cc, .int .i64 r.first, .int .i64 r.rounds, .bool r.equal] := by rw [← hW]; exact (((Blk.new w _ _).alloc _).alloc _).alloc _
  have h4 : Blk W (w.heap.size + 1) cs := by rw [← hW]; exact ((Blk.at _ (by simp)).alloc _).alloc _
  have h5 : Blk W (w.heap.size + 1 + 1) #[.int .i64 p, .slice ba beds.length bc] := by rw [← hW]; exact (Blk.at _ (by simp)).alloc _
  have h6 : Blk W (w.heap.size + 1 + 1 + 1) legZ := by rw [← hW]; exact Blk.at _ (by simp)
  have H3 := Lib.hid h3
  have H4 := Lib.hid h4
  have H5 := Lib.hid h5
  have H6 := Lib.hid h6
  clear hW
  have c30 := h3.cell 0 (v := .slice ca n cc) rfl
  have c45 := h4.cell 5 (v := .bool g.over) (by rw [← HCS.out]; rfl)
  have c43 := h4.cell 3 (v := .int .i64 g.next) (by rw [← HCS.out]; rfl)
  have c50 := h5.cell 0 (v := .int .i64 p) rfl
  have hlt6 := h6.lt
  clear h3 h4 h5 h6
  cases hov : g.over
  case' true =>
    rw [hov] at c45
    have hchk : chkS r.counts.length g.next g.over p = 33 := by unfold chkS; rw [hov]; rfl
    have HCHK := Lib.hid hchk
    clear hchk
    go_wp2_with (refine wp_load_leg rfl _ rfl (w.heap.size + 1) rfl _ H4.out HSZ.out ?_; refine wp_store_leg rfl _ _ rfl (w.heap.size + 1 + 1 + 1) rfl _ rfl _ H6.out rfl HSZ.out HONE.out ?_)
    intro W4 hB4 hC4
    go_wp2
    refine bodyPost_ret (v := .tuple #[.agg cs, .int .i64 (-1), .int .i64 33]) (results_leg3 rfl rfl hB4 HSZ.out rfl rfl) rfl ?_
    rw [← HS.out, step_refused (by rw [HCHK.out]; decide), HCHK.out]
    exact ⟨_, _, rfl, fun _ => rfl, ⟨la, da, ia, wa, ea, lc, dc, ic, wc', ec, E, ls, by rw [HCS.out], HRC.out.ext (Chg.to_ext hE hC4 (by rintro i rfl; omega)), HRI.out.mono (by omega)⟩, Chg.to_ext hE hC4 (by rintro i rfl; omega), fun b hb _ => hb⟩
  rw [hov] at c45
  cases hin : ins 0 ((n : Int) - 1) [p]
  case' false =>
    have hchk : chkS r.counts.length g.next g.over p = 2 := by unfold chkS; rw [hov, HN.out, hin]; rfl
    have HCHK := Lib.hid hchk
    clear hchk
    go_wp2_with fail
    refine (ref_In p 0 ((n : Int) - 1) _).mono ?_
    rintro e w' ⟨rfl, rfl⟩
    rw [hin]
    go_wp2_with (refine wp_load_leg rfl _ rfl (w.heap.size + 1) rfl _ H4.out HSZ.out ?_; refine wp_store_leg rfl _ _ rfl (w.heap.size + 1 + 1 + 1) rfl _ rfl _ H6.out rfl HSZ.out HONE.out ?_)
    intro W4 hB4 hC4
    go_wp2
    refine bodyPost_ret (v := .tuple #[.agg cs, .int .i64 (-1), .int .i64 2]) (results_leg3 rfl rfl hB4 HSZ.out rfl rfl) rfl ?_
    rw [← HS.out, step_refused (by rw [HCHK.out]; decide), HCHK.out]
    exact ⟨_, _, rfl, fun _ => rfl, ⟨la, da, ia, wa, ea, lc, dc, ic, wc', ec, E, ls, by rw [HCS.out], HRC.out.ext (Chg.to_ext hE hC4 (by rintro i rfl; omega)), HRI.out.mono (by omega)⟩, Chg.to_ext hE hC4 (by rintro i rfl; omega), fun b hb _ => hb⟩
  cases hpn : p == g.next
  case' false =>
    have hchk : chkS r.counts.length g.next g.over p = 30 := by unfold chkS; rw [hov, HN.out, hin]; simp [bne, hpn]
    have HCHK := Lib.hid hchk
    clear hchk
    go_wp2_with fail
    refine (ref_In p 0 ((n : Int) - 1) _).mono ?_
    rintro e w' ⟨rfl, rfl⟩
    rw [hin]
    go_wp2_with (refine wp_load_leg rfl _ rfl (w.heap.size + 1) rfl _ H4.out HSZ.out ?_; refine wp_store_leg rfl _ _ rfl (w.heap.size + 1 + 1 + 1) rfl _ rfl _ H6.out rfl HSZ.out HONE.out ?_)
    intro W4 hB4 hC4
    go_wp2
    refine bodyPost_ret (v := .tuple #[.agg cs, .int .i64 (-1), .int .i64 30]) (results_leg3 rfl rfl hB4 HSZ.out rfl rfl) rfl ?_
    rw [← HS.out, step_refused (by rw [HCHK.out]; decide), HCHK.out]
    exact ⟨_, _, rfl, fun _ => rfl, ⟨la, da, ia, wa, ea, lc, dc, ic, wc', ec, E, ls, by rw [HCS.out], HRC.out.ext (Chg.to_ext hE hC4 (by rintro i rfl; omega)), HRI.out.mono (by omega)⟩, Chg.to_ext hE hC4 (by rintro i rfl; omega), fun b hb _ => hb⟩
  have hpe : p = g.next := by simpa using hpn
  have hp0 := ins_one.1 hin
  have hchk : chkS r.counts.length g.next g.over p = 0 := by unfold chkS; rw [hov, HN.out, hin]; simp [hpe]
  obtain ⟨i, rfl⟩ : ∃ i : Nat, p = i := ⟨p.toNat, by omega⟩
  have hi : i < n := by omega
  have HCHK := Lib.hid hchk
  have HPE := Lib.hid hpe
  clear hchk hpe hp0
  have hcnt : cntOf r i = r.counts[i]'(by rw [HN.out]; exact hi) := by unfold cntOf; simp [List.getD_eq_getElem?_getD, List.getElem?_eq_getElem (by rw [HN.out]; exact hi : i < r.counts.length)]
  have hcok : (r.counts[i]'(by rw [HN.out]; exact hi)).ok = true := Rul.ok_count HR.out (List.getElem_mem _)
  obtain ⟨cb, co, rfl, q0, q1, q2⟩ := HC.out i (by rw [HN.out]; exact hi)
  replace q0 := hE.cell q0
  replace q1 := hE.cell q1
  replace q2 := hE.cell q2
  have hqb := lt_of_cell q0
  simp only at hqb
  have hgl : g.left.length = n := by rw [HI.out.left, HN.out]
  have hgi : g.inn.length = n := by rw [HI.out.inn, HN.out]
  have hgd : g.darts.length = n := by rw [HI.out.darts, HN.out]
  obtain ⟨lb, lo, rfl, l0⟩ := HRC.out.left i (by omega)
  obtain ⟨ib, io, rfl, i0⟩ := HRC.out.inn i (by omega)
  replace l0 := hE.cell l0
  replace i0 := hE.cell i0
  have hlb := lt_of_cell l0
  have hib := lt_of_cell i0
  simp only at hlb hib
  have hleft := HI.out.left_at i
  have hgl0 : g.left.getD i 0 = g.left[i]'(by omega) := by simp [List.getD_eq_getElem?_getD, List.getElem?_eq_getElem (by omega : i < g.left.length)]
  have hgi0 : g.inn.getD i false = g.inn[i]'(by omega) := by simp [List.getD_eq_getElem?_getD, List.getElem?_eq_getElem (by omega : i < g.inn.length)]
  obtain ⟨T, hT⟩ : ∃ T, g.thr r i beds = T := ⟨_, rfl⟩
  have hthr := hT
  unfold Gm.thr at hthr
  rw [hcnt, hgl0, hgi0] at hthr
  rw [hgl0] at hleft
  have hbnd : T.2.2 = 0 → (0 ≤ T.1.left ∧ T.1.left ≤ 1001) ∧ (0 ≤ T.1.darts ∧ T.1.darts ≤ 3) := fun e => by rw [← hthr] at e ⊢; exact thr_bounds e hleft
  have hSS : S = if T.2.2 ≠ 0 then (g, T.2.1, T.2.2) else ((g.put r i T.1).fin r, -1, 0) := by
    rw [← HS.out, ← hT]
    unfold Gm.step
    rw [if_neg (by rw [HCHK.out]; simp)]
    rfl
  have HSS := Lib.hid hSS
  have HT := Lib.hid hthr
  have HBD := Lib.hid hbnd
  have HBE := Lib.hid (HB.out.ext hE)
  have HGL := Lib.hid hgl
  have HGI := Lib.hid hgi
  have HGD := Lib.hid hgd
  have HGL0 := Lib.hid hgl0
  have HGI0 := Lib.hid hgi0
  have c40 := H4.out.cell 0 (v := .slice (some ⟨lb, lo, none⟩) g.left.length lc) (by rw [← HCS.out]; rfl)
  have c42 := H4.out.cell 2 (v := .slice (some ⟨ib, io, none⟩) g.inn.length ic) (by rw [← HCS.out]; rfl)
  have c51 := H5.out.cell 1 (v := .slice ba beds.length bc) rfl
  have hcB : cntB (r.counts[i]'(by rw [HN.out]; exact hi)).start (r.counts[i]'(by rw [HN.out]; exact hi)).gin (r.counts[i]'(by rw [HN.out]; exact hi)).gout = true := hcok
  rw [hgl] at c40
  rw [hgi] at c42
  generalize g.left[i]'(by rw [hgl]; exact hi) = left0 at *
  generalize g.inn[i]'(by rw [hgi]; exact hi) = inn0 at *
  generalize r.counts[i]'(by rw [HN.out]; exact hi) = cnt at *
  clear hSS hT hthr hbnd hgl hgi hgd hgl0 hgi0 hcnt hcok HS
  obtain ⟨start, gin, gout⟩ := cnt
  simp only at *
  obtain ⟨⟨xl, xs, xd, xi, xb, xw⟩, at_, er⟩ := T
  have hVi := fun W' (hx : Ext W W') => ref_Visit start gin gout inn0 left0 beds ba bc W' (HBE.out.ext hx) HBI.out hbl hleft hcB _ HT.out
  have HVi := Lib.hid hVi
  clear hVi hcB
  go_wp2_with fail
  refine (ref_In (i : Int) 0 ((n : Int) - 1) _).mono ?_
  rintro e w' ⟨rfl, rfl⟩
  rw [hin]
  have hl3 : w.heap.size < W.heap.size := by omega
  have hl4 : w.heap.size + 1 < W.heap.size := by omega
  have hl5 : w.heap.size + 1 + 1 < W.heap.size := by omega
  go_wp2
  refine wp_region_lat (by kernel_rfl) (fun _ _ => False) (fun k => k == 27 || k == 28) (fun j v => j = 27 → ∃ k, v = .pointer (some ⟨k, 0, none⟩))
    (VisG 27 28 W.heap.size ⟨xl, xs, xd, xi, xb, xw⟩)
    (by kernel_rfl) (fun k hk => by simp only [Bool.or_eq_true, beq_iff_eq] at hk; show k < 31; omega)
    (fun L L' u w hh hg => ⟨by rw [hh 27 rfl, hh 28 rfl]; exact hg.at_⟩)
    (fun L u w w' hg hx => ⟨fun hl => let ⟨k, a1, a2, a3⟩ := hg.at_ hl; ⟨k, a1, a2, a3.ext hx⟩⟩)
    (fun _ => .pointer (some ⟨0, 0, none⟩)) (fun j hj _ => ⟨0, rfl⟩)
    ⟨fun h => (by cases h)⟩ ?_
  intro T hT hne u hu
  obtain ⟨m, u27⟩ := hu 27 rfl rfl
  refine lx_next 27 (by rfl) (by decide) ?_
  dsimp only [List.take, List.drop]
  repeat (go_big_quiet_step (with_reducible refine Calls.lat hT (HVi.out _ (lat0_ext _))))
  refine wpQuiet_nil ?_
  refine lx_loud (by rfl) (by kernel_rfl) ?_ (fun K hK => ?_)
  · intro L w3 hL hd hcl hC hg
    obtain ⟨z, rfl⟩ := hC
    have h28 := hcl.off hL 40 28 (by kernel_rfl)
    have hx9 : Ext z.world (z.world.alloc (.cells #[.int .i64 0, .int .i64 0, .int .i64 0, .bool false, .bool false, .bool false] 30)) := (Ext.refl _).alloc _
    have hsz := z.size
    go_wp2
    refine ⟨⟨_, rfl⟩, ⟨z.ext hx9, rfl⟩, ⟨fun _ => ⟨z.world.heap.size, rfl, hsz, ?_⟩⟩⟩
    simp only [upd]
    rw [h28]
    exact Blk.new z.world _ _
  rw [u27]
  go_simp
  with_reducible refine hK _ ?_
  clear hK K
  refine lx_loud (by rfl) (by kernel_rfl) ?_ (fun K hK => ?_)
  · intro L w3 hL hd hcl hC hg
    obtain ⟨z, rfl⟩ := hC
    obtain ⟨k, hk, hbk, hz⟩ := hg.at_ (hd 27 (by kernel_rfl))
    obtain rfl : k = m := by rw [u27] at hk; cases hk; rfl
    rw [hL] at hz
    have hz' : Blk z.world k #[.int .i64 0, .int .i64 0, .int .i64 0, .bool false, .bool false, .bool false] := hz
    have HZ := Lib.hid hz'
    obtain ⟨⟨y0, y1, y2, y3, y4, y5⟩, ys, g0, g1, g2, g3, g4, g5⟩ := hz'.six
    clear hz hz'
    simp only [Thr.agg]
    go_wp2
    have hX := six_ext (a := W) (w := z.world) (b := k) (by exact Chg.to_ext (Ext.refl W) z.chg (by rintro i ⟨o, h⟩; exact h.elim)) (by omega) (.int .i64 xl) (.int .i64 xs) (.int .i64 xd) (.bool xi) (.bool xb) (.bool xw)
    refine ⟨⟨Lat.of_ext _ hX, rfl⟩, ⟨fun _ => ⟨k, hk, hbk, six_set HZ.out _ _ _ _ _ _⟩⟩⟩
  go_simp
  with_reducible refine hK _ ?_
  clear hK K
  refine lx_next 2 (by rfl) (by decide) ?_
  dsimp only [List.take, List.drop]
  repeat (go_big_quiet_step (fail))
  refine wpQuiet_nil ?_
  refine lx_nil ?_
  intro z hG
  obtain ⟨k10, hk10, hbk, hz⟩ := hG.at_ rfl
  obtain rfl : k10 = m := by rw [u27] at hk10; cases hk10; rfl
  have hX : Ext W z.world := Chg.to_ext (Ext.refl W) z.chg (by rintro i ⟨o, h⟩; exact h.elim)
  have hXB : Blk z.world k10 #[.int .i64 xl, .int .i64 xs, .int .i64 xd, .bool xi, .bool xb, .bool xw] := hz
  have HXB := Lib.hid hXB
  generalize z.world = w2 at *
  have hE2 := hE.trans hX
  have H32 := Lib.hid (H3.out.ext hX)
  have H42 := Lib.hid (H4.out.ext hX)
  have H52 := Lib.hid (H5.out.ext hX)
  have H62 := Lib.hid (H6.out.ext hX)
  have hsz := hX.size
  have hlk := hXB.lt
  have hatR : er ≠ 0 → atR (⟨xl, xs, xd, xi, xb, xw⟩, at_, er) = at_ := fun h => by unfold atR; rw [if_neg h]
  have HATR := Lib.hid hatR
  clear hXB hz hG hX hT hne hu hk10 u27 z c30 c45 c43 c50 q0 q1 q2 l0 i0 c40 c42 c51 H3 H4 H5 H6 HVi HBE hatR
  generalize atR (⟨xl, xs, xd, xi, xb, xw⟩, at_, er) = atr at *
  cases he : er == 0
  case' false =>
    have hne : er ≠ 0 := by simpa using he
    go_wp2_with (first | (refine wp_load_leg rfl _ rfl (w.heap.size + 1) rfl _ H42.out HSZ.out ?_) | (refine wp_store_leg rfl _ _ rfl (w.heap.size + 1 + 1 + 1) rfl _ rfl _ H62.out rfl HSZ.out HONE.out ?_; intro W4 hB4 hC4))
    refine bodyPost_ret (v := .tuple #[.agg cs, .int .i64 atr, .int .i64 er]) (results_leg3 rfl rfl hB4 HSZ.out rfl rfl) rfl ?_
    rw [HSS.out, if_pos hne]
    exact ⟨_, _, rfl, fun h => HATR.out h, ⟨_, da, _, wa, ea, lc, dc, ic, wc', ec, E, ls, by rw [HCS.out], HRC.out.ext (Chg.to_ext hE2 hC4 (by rintro i rfl; omega)), HRI.out.mono (by omega)⟩, Chg.to_ext hE2 hC4 (by rintro i rfl; omega), fun b hb _ => hb⟩
  obtain rfl : er = 0 := by simpa using he
  have hSx := HSS.out
  rw [if_neg (by simp)] at hSx
  have HSF := Lib.hid hSx
  have hxb := HBD.out rfl
  obtain ⟨⟨hxl0, hxl1⟩, hxd0, hxd1⟩ := hxb
  have hcsL : cs = legL (.slice (some ⟨lb, lo, none⟩) n lc) (.slice da n dc) (.slice (some ⟨ib, io, none⟩) n ic) i g.round false (.slice wa g.winners.length wc') (.slice ea E.length ec) ls g.done := by
    rw [← HCS.out]; unfold legG; rw [HGL.out, HGD.out, HGI.out, hov, HPE.out]
  have H43 := H42.out
  rw [hcsL] at H43
  have HL := Lib.hid H43
  have d0 := H43.cell 0 (v := .slice (some ⟨lb, lo, none⟩) n lc) rfl
  have d1 := H43.cell 1 (v := .slice da n dc) rfl
  have d2 := H43.cell 2 (v := .slice (some ⟨ib, io, none⟩) n ic) rfl
  have d3 := H43.cell 3 (v := .int .i64 i) rfl
  have d4 := H43.cell 4 (v := .int .i64 g.round) rfl
  have d5 := H43.cell 5 (v := .bool false) rfl
  have d6 := H43.cell 6 (v := .slice wa g.winners.length wc') rfl
  have hl42 := H43.lt
  clear hSx hcsL H43 H42 HCS HSZ HONE HSS HBD HATR
  go_upto_region 12 with fail
  generalize hW3 : World.alloc w2 _ = W3
  have hA3 : Ext w2 W3 := by rw [← hW3]; exact (Ext.refl w2).alloc _
  have hE3 := hE2.trans hA3
  have h13 : Blk W3 w2.heap.size #[.slice (some ⟨lb, lo, none⟩) n lc, .slice da n dc, .slice (some ⟨ib, io, none⟩) n ic, .int .i64 i, .int .i64 g.round, .bool false, .slice wa g.winners.length wc'] := by rw [← hW3]; exact Blk.new _ _ _
  have e0 := h13.cell 0 (v := .slice (some ⟨lb, lo, none⟩) n lc) rfl
  have e1 := h13.cell 1 (v := .slice da n dc) rfl
  have e2 := h13.cell 2 (v := .slice (some ⟨ib, io, none⟩) n ic) rfl
  have hl13 := h13.lt
  have H34 := Lib.hid (H32.out.ext hA3)
  have H44 := Lib.hid (HL.out.ext hA3)
  have H54 := Lib.hid (H52.out.ext hA3)
  have H64 := Lib.hid (H62.out.ext hA3)
  have HX4 := Lib.hid (HXB.out.ext hA3)
  have hl44 := H44.out.lt
  clear hW3 d0 d1 d2 d3 d4 d5 d6 hl42 h13 H32 HL H52 H62 HXB hA3
  generalize hk13 : w2.heap.size = K13 at *
  clear hk13
  have HLc := Lib.hid HRC.out.left
  have HDc := Lib.hid HRC.out.darts
  have HIc := Lib.hid HRC.out.inn
  have hnl := HRC.out.nleft
  rw [HGL.out] at hnl
  have HNL := Lib.hid hnl
  have hnd := HRC.out.ndarts
  rw [HGD.out] at hnd
  have HND := Lib.hid hnd
  have hni := HRC.out.ninn
  rw [HGI.out] at hni
  have HNI := Lib.hid hni
  clear hnl hnd hni
  generalize hN3 : W3.heap.size = N at *
  have HN3 := Lib.hid hN3
  have hk13 : w.heap.size + 1 < K13 := by omega
  have hnn1 : ¬ (K13 = w.heap.size + 1) := by omega
  refine wp_region_lat (by kernel_rfl) (fun b' _ => b' = w.heap.size + 1) (fun k => k == 0 || k == 3 || k == 4 || k == 7 || k == 8 || k == 11 || k == 14 || k == 17 || k == 20) (CpR n)
    (CpG (w.heap.size + 1) N (fun p q s => legL p q s i g.round false (.slice wa g.winners.length wc') (.slice ea E.length ec) ls g.done) (.slice (some ⟨lb, lo, none⟩) n lc) (.slice da n dc) (.slice (some ⟨ib, io, none⟩) n ic) g.left g.darts g.inn)
    (by kernel_rfl) (fun k hk => by simp only [Bool.or_eq_true, beq_iff_eq] at hk; show k < 21; omega)
    (fun L L' u w hh hg => ⟨by rw [hh 14 rfl, hh 17 rfl, hh 20 rfl]; exact hg.blk, by rw [hh 0 rfl, hh 3 rfl]; exact hg.o0, by rw [hh 3 rfl]; exact hg.o3, by rw [hh 4 rfl, hh 7 rfl]; exact hg.o4, by rw [hh 7 rfl]; exact hg.o7, by rw [hh 8 rfl, hh 11 rfl]; exact hg.o8, by rw [hh 11 rfl]; exact hg.o11, by rw [hh 0 rfl, hh 3 rfl, hh 4 rfl, hh 7 rfl]; exact hg.dis⟩)
    (fun L u w w' hg hx => hg.mono hx)
    (fun j => if j = 0 ∨ j = 4 ∨ j = 8 then .slice (some ⟨0, 0, none⟩) 0 0 else .slice none n 0)
    (fun j hj => ⟨fun h => by rcases h with rfl | rfl | rfl <;> exact ⟨0, rfl⟩, fun h => by rcases h with rfl | rfl | rfl <;> exact ⟨none, 0, rfl⟩⟩)
    ⟨H44.out.drew, fun h => (by cases h), fun h => (by cases h), fun h => (by cases h), fun h => (by cases h), fun h => (by cases h), fun h => (by cases h), fun h => (by cases h)⟩ ?_
  intro T hT hne u hu
  obtain ⟨k0, u0⟩ := (hu 0 rfl).one (.inl rfl)
  obtain ⟨k4, u4⟩ := (hu 4 rfl).one (.inr (.inl rfl))
  obtain ⟨k8, u8⟩ := (hu 8 rfl).one (.inr (.inr rfl))
  obtain ⟨a3, c3, u3⟩ := (hu 3 rfl).app (.inl rfl)
  obtain ⟨a7, c7, u7⟩ := (hu 7 rfl).app (.inr (.inl rfl))
  obtain ⟨a11, c11, u11⟩ := (hu 11 rfl).app (.inr (.inr rfl))
  refine lx_loud (by rfl) (by kernel_rfl) ?_ (fun K hK => ?_)
  · intro L w3 hL hd hcl hC hg
    obtain ⟨z, rfl⟩ := hC
    have hX := hcl.off hL 30 3 (by kernel_rfl)
    have hx9 := (Ext.refl z.world).alloc (.cells #[] 3)
    have hzs : N ≤ z.world.heap.size := by have := z.size; omega
    have hm := hg.mono hx9
    go_wp2
    refine ⟨⟨fun _ => ⟨_, rfl⟩, fun h => absurd h (by decide)⟩, ⟨z.ext hx9, rfl⟩, ⟨hm.blk, fun _ _ => own_empty rfl hzs, hm.o3, hm.o4, hm.o7, hm.o8, hm.o11, ?_⟩⟩
    intro _ h4 g e1 e2
    have e1' : (bif L 3 then u 3 else .slice (some ⟨z.world.heap.size, 0, none⟩) 0 0 : Value).ownBlock = some g := e1
    rw [hX] at e1'
    have e3 := own_blk e1'
    have := hg.lt2 h4 g e2
    omega
  rw [u0]
  go_simp
  with_reducible refine hK _ ?_
  clear hK K
  refine lx_next 2 (by rfl) (by decide) ?_
  dsimp only [List.take, List.drop]
  repeat (go_big_quiet_step (fail))
  refine wpQuiet_nil ?_
  refine lx_loud (by rfl) (by kernel_rfl) ?_ (fun K hK => ?_)
  · intro L w3 hL hd hcl hC hg
    obtain ⟨z, rfl⟩ := hC
    have ho := hg.o0 (hd 0 (by kernel_rfl)) hL
    rw [u0] at ho
    have hzN : N ≤ z.world.heap.size := by have := z.size; omega
    have hzx : Ext w z.world := Chg.to_ext hE3 z.chg (by rintro j ⟨_, h1⟩; omega)
    have hX1 := hcl.off hL 30 14 (by kernel_rfl)
    refine wp_append_vals_at rfl _ _ 48 3 _ 1 8 rfl info_int (by kernel_rfl) rfl (by decide) N (.slice (some ⟨k0, 0, none⟩) 0 0) 0 [] rfl ho (some ⟨lb, lo, none⟩) n lc (g.left.map (Value.int .i64)) rfl HNL.out (by rw [List.length_map, HGL.out]; omega) (CellsAt.vals ((HLc.out.ext hzx))) (ints_one _ _) (by omega) (by omega) hzN ?_
    intro v' w4 ho4 hg4 hat4
    have hob := own_lt ho
    have hC4 := grown_chg hg4
    have hO4 : OwnI w4 N v' g.left := by unfold OwnI; rw [HGL.out]; simpa using ho4
    obtain ⟨qa, qc, rfl, -⟩ := hO4.cells
    rw [HGL.out] at hO4 hat4 ⊢
    have HO4 := Lib.hid hO4
    clear ho4 hO4
    have HAT := Lib.hid hat4
    clear hat4
    go_wp2
    refine ⟨⟨fun h => absurd h (by decide), fun _ => ⟨_, _, rfl⟩⟩, ⟨z.chgd hC4 (fun j e => .inl (by have := (hob j e).1; omega)), rfl⟩, ⟨?_, fun _ h => (by simp [upd] at h), fun _ => HO4.out, fun h1 h2 => own_chg (hg.o4 h1 h2) hC4 (fun j e e2 => ?_), fun h1 => (hg.o7 h1).chg hC4 (fun j e e2 => ?_), fun h1 h2 => own_chg (hg.o8 h1 h2) hC4 (fun j e e2 => own_ne ho (hg.o8 h1 h2) (by decide) j e2 e), fun h1 => (hg.o11 h1).chg hC4 (fun j e e2 => own_ne ho (hg.o11 h1) (by decide) j e2 e), ?_⟩⟩
    · have := hg.blk.chg hC4 (fun e => by have := (hob _ e).1; omega)
      rw [hX1] at this
      simp only [upd]
      rw [hX1]
      exact this
    · have h3 := hg.dis (hd 0 (by kernel_rfl)) h1 j
      rw [hL, u0] at h3
      exact h3 e2 (by rw [show L 7 = false from h2]; exact e)
    · have h4 := hcl.on (i := 4) 30 h1 (by kernel_rfl)
      have h3 := hg.dis (hd 0 (by kernel_rfl)) h4 j
      rw [hL, u0] at h3
      exact h3 e2 (by rw [show L 7 = true from h1]; exact e)
    · intro _ h4 j e1 e2
      rcases HAT.out with h | h
      · have h3 := hg.dis (hd 0 (by kernel_rfl)) h4 j
        rw [hL, u0] at h3
        exact h3 (h.symm.trans e1) e2
      · have e3 : some z.world.heap.size = some j := h.symm.trans e1
        have e4 := Option.some.inj e3
        have := hg.lt2 h4 j e2
        omega
  rw [u3]
  go_simp
  with_reducible refine hK _ ?_
  clear hK K
  refine lx_loud (by rfl) (by kernel_rfl) ?_ (fun K hK => ?_)
  · intro L w3 hL hd hcl hC hg
    obtain ⟨z, rfl⟩ := hC
    have hX := hcl.off hL 30 7 (by kernel_rfl)
    have hx9 := (Ext.refl z.world).alloc (.cells #[] 3)
    have hzs : N ≤ z.world.heap.size := by have := z.size; omega
    have hm := hg.mono hx9
    go_wp2
    refine ⟨⟨fun _ => ⟨_, rfl⟩, fun h => absurd h (by decide)⟩, ⟨z.ext hx9, rfl⟩, ⟨hm.blk, hm.o0, hm.o3, fun _ _ => own_empty rfl hzs, hm.o7, hm.o8, hm.o11, ?_⟩⟩
    intro h0 _ g e1 e2
    have e2' : (bif L 7 then u 7 else .slice (some ⟨z.world.heap.size, 0, none⟩) 0 0 : Value).ownBlock = some g := e2
    rw [hX] at e2'
    have e3 := own_blk e2'
    have := hg.lt1 h0 g e1
    omega
  rw [u4]
  go_simp
  with_reducible refine hK _ ?_
  clear hK K
  refine lx_next 2 (by rfl) (by decide) ?_
  dsimp only [List.take, List.drop]
  repeat (go_big_quiet_step (fail))
  refine wpQuiet_nil ?_
  refine lx_loud (by rfl) (by kernel_rfl) ?_ (fun K hK => ?_)
  · intro L w3 hL hd hcl hC hg
    obtain ⟨z, rfl⟩ := hC
    have ho := hg.o4 (hd 4 (by kernel_rfl)) hL
    rw [u4] at ho
    have hzN : N ≤ z.world.heap.size := by have := z.size; omega
    have hzx : Ext w z.world := Chg.to_ext hE3 z.chg (by rintro j ⟨_, h1⟩; omega)
    have hX1 := hcl.off hL 30 17 (by kernel_rfl)
    refine wp_append_vals_at rfl _ _ 48 3 _ 1 8 rfl info_int (by kernel_rfl) rfl (by decide) N (.slice (some ⟨k4, 0, none⟩) 0 0) 0 [] rfl ho da n dc (g.darts.map (Value.int .i64)) rfl HND.out (by rw [List.length_map, HGD.out]; omega) (CellsAt.vals ((HDc.out.ext hzx))) (ints_one _ _) (by omega) (by omega) hzN ?_
    intro v' w4 ho4 hg4 hat4
    have hob := own_lt ho
    have hC4 := grown_chg hg4
    have hO4 : OwnI w4 N v' g.darts := by unfold OwnI; rw [HGD.out]; simpa using ho4
    obtain ⟨qa, qc, rfl, -⟩ := hO4.cells
    rw [HGD.out] at hO4 hat4 ⊢
    have HO4 := Lib.hid hO4
    clear ho4 hO4
    have HAT := Lib.hid hat4
    clear hat4
    go_wp2
    refine ⟨⟨fun h => absurd h (by decide), fun _ => ⟨_, _, rfl⟩⟩, ⟨z.chgd hC4 (fun j e => .inl (by have := (hob j e).1; omega)), rfl⟩, ⟨?_, fun h1 h2 => own_chg (hg.o0 h1 h2) hC4 (fun j e e2 => ?_), fun h1 => (hg.o3 h1).chg hC4 (fun j e e2 => ?_), fun _ h => (by simp [upd] at h), fun _ => HO4.out, fun h1 h2 => own_chg (hg.o8 h1 h2) hC4 (fun j e e2 => own_ne ho (hg.o8 h1 h2) (by decide) j e2 e), fun h1 => (hg.o11 h1).chg hC4 (fun j e e2 => own_ne ho (hg.o11 h1) (by decide) j e2 e), ?_⟩⟩
    · have := hg.blk.chg hC4 (fun e => by have := (hob _ e).1; omega)
      rw [hX1] at this
      simp only [upd]
      rw [hX1]
      exact this
    · have h3 := hg.dis h1 (hd 4 (by kernel_rfl)) j
      rw [hL, u4] at h3
      exact h3 (by rw [show L 3 = false from h2]; exact e) e2
    · have h4 := hcl.on (i := 0) 30 h1 (by kernel_rfl)
      have h3 := hg.dis h4 (hd 4 (by kernel_rfl)) j
      rw [hL, u4] at h3
      exact h3 (by rw [show L 3 = true from h1]; exact e) e2
    · intro h0 _ j e1 e2
      rcases HAT.out with h | h
      · have h3 := hg.dis h0 (hd 4 (by kernel_rfl)) j
        rw [hL, u4] at h3
        exact h3 e1 (h.symm.trans e2)
      · have e3 : some z.world.heap.size = some j := h.symm.trans e2
        have e4 := Option.some.inj e3
        have := hg.lt1 h0 j e1
        omega
  rw [u7]
  go_simp
  with_reducible refine hK _ ?_
  clear hK K
  refine lx_loud (by rfl) (by kernel_rfl) ?_ (fun K hK => ?_)
  · intro L w3 hL hd hcl hC hg
    obtain ⟨z, rfl⟩ := hC
    have hX := hcl.off hL 30 11 (by kernel_rfl)
    have hx9 := (Ext.refl z.world).alloc (.cells #[] 4)
    have hzs : N ≤ z.world.heap.size := by have := z.size; omega
    have hm := hg.mono hx9
    go_wp2
    refine ⟨⟨fun _ => ⟨_, rfl⟩, fun h => absurd h (by decide)⟩, ⟨z.ext hx9, rfl⟩, ⟨hm.blk, hm.o0, hm.o3, hm.o4, hm.o7, fun _ _ => own_empty rfl hzs, hm.o11, ?_⟩⟩
    exact hm.dis
  rw [u8]
  go_simp
  with_reducible refine hK _ ?_
  clear hK K
  refine lx_next 2 (by rfl) (by decide) ?_
  dsimp only [List.take, List.drop]
  repeat (go_big_quiet_step (fail))
  refine wpQuiet_nil ?_
  refine lx_loud (by rfl) (by kernel_rfl) ?_ (fun K hK => ?_)
  · intro L w3 hL hd hcl hC hg
    obtain ⟨z, rfl⟩ := hC
    have ho := hg.o8 (hd 8 (by kernel_rfl)) hL
    rw [u8] at ho
    have hzN : N ≤ z.world.heap.size := by have := z.size; omega
    have hzx : Ext w z.world := Chg.to_ext hE3 z.chg (by rintro j ⟨_, h1⟩; omega)
    have hX1 := hcl.off hL 30 20 (by kernel_rfl)
    refine wp_append_vals_at rfl _ _ 49 4 _ 1 1 rfl info_bool (by kernel_rfl) rfl (by decide) N (.slice (some ⟨k8, 0, none⟩) 0 0) 0 [] rfl ho (some ⟨ib, io, none⟩) n ic (g.inn.map Value.bool) rfl HNI.out (by rw [List.length_map, HGI.out]; omega) (BoolsAt.vals ((HIc.out.ext hzx))) (bools_one _) (by omega) (by omega) hzN ?_
    intro v' w4 ho4 hg4 hat4
    have hob := own_lt ho
    have hC4 := grown_chg hg4
    have hO4 : OwnB w4 N v' g.inn := by unfold OwnB; rw [HGI.out]; simpa using ho4
    obtain ⟨qa, qc, rfl⟩ := OwnB.shape hO4
    rw [HGI.out] at hO4 ⊢
    have HO4 := Lib.hid hO4
    clear ho4 hO4
    clear hat4
    go_wp2
    refine ⟨⟨fun h => absurd h (by decide), fun _ => ⟨_, _, rfl⟩⟩, ⟨z.chgd hC4 (fun j e => .inl (by have := (hob j e).1; omega)), rfl⟩, ⟨?_, fun h1 h2 => own_chg (hg.o0 h1 h2) hC4 (fun j e e2 => own_ne ho (hg.o0 h1 h2) (by decide) j e2 e), fun h1 => (hg.o3 h1).chg hC4 (fun j e e2 => own_ne ho (hg.o3 h1) (by decide) j e2 e), fun h1 h2 => own_chg (hg.o4 h1 h2) hC4 (fun j e e2 => own_ne ho (hg.o4 h1 h2) (by decide) j e2 e), fun h1 => (hg.o7 h1).chg hC4 (fun j e e2 => own_ne ho (hg.o7 h1) (by decide) j e2 e), fun _ h => (by simp [upd] at h), fun _ => HO4.out, hg.dis⟩⟩
    have := hg.blk.chg hC4 (fun e => by have := (hob _ e).1; omega)
    rw [hX1] at this
    simp only [upd]
    rw [hX1]
    exact this
  rw [u11]
  go_simp
  with_reducible refine hK _ ?_
  clear hK K
  refine lx_next 2 (by rfl) (by decide) ?_
  dsimp only [List.take, List.drop]
  repeat (go_big_quiet_step (fail))
  refine wpQuiet_nil ?_
  refine lx_loud (by rfl) (by kernel_rfl) ?_ (fun K hK => ?_)
  · intro L w3 hL hd hcl hC hg
    obtain ⟨z, rfl⟩ := hC
    have f4 := hg.blk.frozen 0
    have hcc := hg.blk.cell 0 rfl
    have hzs := hg.blk.lt
    have hset := Chg.setCell (S := (· = w.heap.size + 1)) (Chg.refl _ z.world) (p := ⟨w.heap.size + 1, 0, none⟩) (.inr rfl) (.slice a3 n c3)
    have hnb : w.heap.size + 1 < N := by omega
    go_wp2
    refine ⟨⟨fun h => absurd h (by decide), fun h => absurd h (by decide)⟩, ⟨z.chgd hset (fun j e => .inr fun _ => by omega), rfl⟩, ⟨?_, fun h1 h2 => own_chg (hg.o0 h1 h2) hset (fun j e e' => by have := (own_lt (hg.o0 h1 h2) j e).1; omega), fun h1 => (hg.o3 h1).chg hset (fun j e e' => by have := (own_lt (hg.o3 h1) j e).1; omega), fun h1 h2 => own_chg (hg.o4 h1 h2) hset (fun j e e' => by have := (own_lt (hg.o4 h1 h2) j e).1; omega), fun h1 => (hg.o7 h1).chg hset (fun j e e' => by have := (own_lt (hg.o7 h1) j e).1; omega), fun h1 h2 => own_chg (hg.o8 h1 h2) hset (fun j e e' => by have := (own_lt (hg.o8 h1 h2) j e).1; omega), fun h1 => (hg.o11 h1).chg hset (fun j e e' => by have := (own_lt (hg.o11 h1) j e).1; omega), hg.dis⟩⟩
    have := hg.blk.set 0 (.slice a3 n c3)
    simp only [upd, updv]
    rw [u3]
    exact this
  go_simp
  with_reducible refine hK _ ?_
  clear hK K
  refine lx_next 2 (by rfl) (by decide) ?_
  dsimp only [List.take, List.drop]
  repeat (go_big_quiet_step (fail))
  refine wpQuiet_nil ?_
  refine lx_loud (by rfl) (by kernel_rfl) ?_ (fun K hK => ?_)
  · intro L w3 hL hd hcl hC hg
    obtain ⟨z, rfl⟩ := hC
    have f4 := hg.blk.frozen 1
    have hcc := hg.blk.cell 1 rfl
    have hzs := hg.blk.lt
    have hset := Chg.setCell (S := (· = w.heap.size + 1)) (Chg.refl _ z.world) (p := ⟨w.heap.size + 1, 1, none⟩) (.inr rfl) (.slice a7 n c7)
    have hnb : w.heap.size + 1 < N := by omega
    go_wp2
    refine ⟨⟨fun h => absurd h (by decide), fun h => absurd h (by decide)⟩, ⟨z.chgd hset (fun j e => .inr fun _ => by omega), rfl⟩, ⟨?_, fun h1 h2 => own_chg (hg.o0 h1 h2) hset (fun j e e' => by have := (own_lt (hg.o0 h1 h2) j e).1; omega), fun h1 => (hg.o3 h1).chg hset (fun j e e' => by have := (own_lt (hg.o3 h1) j e).1; omega), fun h1 h2 => own_chg (hg.o4 h1 h2) hset (fun j e e' => by have := (own_lt (hg.o4 h1 h2) j e).1; omega), fun h1 => (hg.o7 h1).chg hset (fun j e e' => by have := (own_lt (hg.o7 h1) j e).1; omega), fun h1 h2 => own_chg (hg.o8 h1 h2) hset (fun j e e' => by have := (own_lt (hg.o8 h1 h2) j e).1; omega), fun h1 => (hg.o11 h1).chg hset (fun j e e' => by have := (own_lt (hg.o11 h1) j e).1; omega), hg.dis⟩⟩
    have := hg.blk.set 1 (.slice a7 n c7)
    simp only [upd, updv]
    rw [u7]
    exact this
  go_simp
  with_reducible refine hK _ ?_
  clear hK K
  refine lx_next 2 (by rfl) (by decide) ?_
  dsimp only [List.take, List.drop]
  repeat (go_big_quiet_step (fail))
  refine wpQuiet_nil ?_
  refine lx_loud (by rfl) (by kernel_rfl) ?_ (fun K hK => ?_)
  · intro L w3 hL hd hcl hC hg
    obtain ⟨z, rfl⟩ := hC
    have f4 := hg.blk.frozen 2
    have hcc := hg.blk.cell 2 rfl
    have hzs := hg.blk.lt
    have hset := Chg.setCell (S := (· = w.heap.size + 1)) (Chg.refl _ z.world) (p := ⟨w.heap.size + 1, 2, none⟩) (.inr rfl) (.slice a11 n c11)
    have hnb : w.heap.size + 1 < N := by omega
    go_wp2
    refine ⟨⟨fun h => absurd h (by decide), fun h => absurd h (by decide)⟩, ⟨z.chgd hset (fun j e => .inr fun _ => by omega), rfl⟩, ⟨?_, fun h1 h2 => own_chg (hg.o0 h1 h2) hset (fun j e e' => by have := (own_lt (hg.o0 h1 h2) j e).1; omega), fun h1 => (hg.o3 h1).chg hset (fun j e e' => by have := (own_lt (hg.o3 h1) j e).1; omega), fun h1 h2 => own_chg (hg.o4 h1 h2) hset (fun j e e' => by have := (own_lt (hg.o4 h1 h2) j e).1; omega), fun h1 => (hg.o7 h1).chg hset (fun j e e' => by have := (own_lt (hg.o7 h1) j e).1; omega), fun h1 h2 => own_chg (hg.o8 h1 h2) hset (fun j e e' => by have := (own_lt (hg.o8 h1 h2) j e).1; omega), fun h1 => (hg.o11 h1).chg hset (fun j e e' => by have := (own_lt (hg.o11 h1) j e).1; omega), hg.dis⟩⟩
    have := hg.blk.set 2 (.slice a11 n c11)
    simp only [upd, updv]
    rw [u11]
    exact this
  go_simp
  with_reducible refine hK _ ?_
  clear hK K
  refine lx_nil ?_
  intro z hG
  have hb5 := hG.blk
  have hl5 := hG.o3 rfl
  have hd5 := hG.o7 rfl
  have hi5 := hG.o11 rfl
  have hdis := hG.dis rfl rfl
  simp only [cond_true] at hb5 hdis
  rw [u3] at hb5 hl5 hdis
  rw [u7] at hb5 hd5 hdis
  rw [u11] at hb5 hi5
  have hZ : Ext w z.world := Chg.to_ext hE3 z.chg (by rintro j ⟨_, h1⟩; omega)
  have hb3' := H34.out.chg z.chg (by rintro ⟨_, h1⟩; omega)
  have hb5' := H54.out.chg z.chg (by rintro ⟨_, h1⟩; omega)
  have hb6' := H64.out.chg z.chg (by rintro ⟨_, h1⟩; omega)
  have hbx' := HX4.out.chg z.chg (by rintro ⟨_, h1⟩; omega)
  have hNz := z.size
  generalize z.world = w5 at *
  obtain ⟨gl, cl, esl, hgl1, hgl2⟩ := own_some hl5 (by rw [HGL.out]; omega)
  obtain ⟨gd, cd, esd, hgd1, hgd2⟩ := own_some hd5 (by rw [HGD.out]; omega)
  obtain ⟨gi, ci, esi, hgi1, hgi2⟩ := own_some hi5 (by rw [HGI.out]; omega)
  rw [HGL.out] at esl
  rw [HGD.out] at esd
  rw [HGI.out] at esi
  rw [esl] at hb5 hl5 hdis
  rw [esd] at hb5 hd5 hdis
  rw [esi] at hb5 hi5
  have hnld : gl ≠ gd := fun e => hdis gl rfl (by rw [e]; rfl)
  have hnli : gl ≠ gi := fun e => own_ne hl5 hi5 (by decide) gl rfl (by rw [e]; rfl)
  have hndi : gd ≠ gi := fun e => own_ne hd5 hi5 (by decide) gd rfl (by rw [e]; rfl)
  have H35 := Lib.hid hb3'
  have H45 := Lib.hid hb5
  have H55 := Lib.hid hb5'
  have H65 := Lib.hid hb6'
  have HX5 := Lib.hid hbx'
  have HL5 := Lib.hid hl5
  have HD5 := Lib.hid hd5
  have HI5 := Lib.hid hi5
  have HSN := Lib.hid (show w.heap.size + 1 + 1 + 1 < N ∧ k10 < N ∧ w.heap.size + 1 + 1 + 1 < k10 from ⟨by have := H64.out.lt; omega, by have := HX4.out.lt; omega, by omega⟩)
  clear hG hb5 hl5 hd5 hi5 hdis hb3' hb5' hb6' hbx' u0 u3 u4 u7 u8 u11 hu hT hne z esl esd esi e0 e1 e2 H34 H44 H54 H64 HX4 hl13 hl44 HNL HND HNI HLc HDc HIc
  obtain ⟨hS1, hS2, hS3⟩ := HSN.out
  have c40 := H45.out.cell 0 (v := .slice (some ⟨gl, 0, none⟩) n cl) rfl
  have c42 := H45.out.cell 2 (v := .slice (some ⟨gi, 0, none⟩) n ci) rfl
  have c50 := H55.out.cell 0 (v := .int .i64 i) rfl
  have x0 := HX5.out.cell 0 (v := .int .i64 xl) rfl
  have x3 := HX5.out.cell 3 (v := .bool xi) rfl
  have hlt4 := H45.out.lt
  have hlt5 := H55.out.lt
  have hltx := HX5.out.lt
  have m1 : w.heap.size + 1 ≠ gl := by omega
  have m2 : w.heap.size + 1 ≠ gi := by omega
  have m3 : w.heap.size + 1 + 1 ≠ gl := by omega
  have m4 : w.heap.size + 1 + 1 ≠ gi := by omega
  have m5 : k10 ≠ gl := by omega
  have m6 : k10 ≠ gi := by omega
  go_wp2
  refine wp_region_lat (by kernel_rfl) (fun b' o => (b' = gl ∨ b' = gi) ∧ o = i) (fun k => k == 15 || k == 17) (fun _ _ => True)
    (fun L _ w' => SeG N gl gi n cl ci i g.left xl g.inn xi L w')
    (by kernel_rfl) (fun k hk => by simp only [Bool.or_eq_true, beq_iff_eq] at hk; show k < 18; omega)
    (fun L L' u w hh hg => ⟨by rw [hh 15 rfl]; exact hg.left, by rw [hh 17 rfl]; exact hg.inn⟩)
    (fun L u w w' hg hx => ⟨hg.left.ext hx, hg.inn.ext hx⟩)
    (fun _ => undef) (fun j hj => trivial)
    ⟨HL5.out.ext (Ext.refl _).drew, HI5.out.ext (Ext.refl _).drew⟩ ?_
  intro T hT hne u hu
  refine lx_next 15 (by rfl) (by decide) ?_
  dsimp only [List.take, List.drop]
  repeat (go_big_quiet_step (fail))
  refine wpQuiet_nil ?_
  refine lx_loud (by rfl) (by kernel_rfl) ?_ (fun K hK => ?_)
  · intro L w3 hL hd hcl hC hg
    obtain ⟨z, rfl⟩ := hC
    have ho := hg.left
    rw [hL] at ho
    have ho' : OwnI z.world N (.slice (some ⟨gl, 0, none⟩) n cl) g.left := ho
    have hh := ho'.set (i := i) HGL.out.symm xl
    obtain ⟨u1, u2⟩ := own_cell (i := i) (u := .int .i64 (g.left[i]'(by rw [HGL.out]; exact hi))) (by unfold OwnI at ho'; rw [HGL.out] at ho'; exact ho') (by simp [HGL.out, hi])
    have hlt := lt_of_cell u1
    have hIN := hg.inn
    clear ho ho' hg
    go_wp2
    exact ⟨⟨z.setCell (.inr ⟨.inl rfl, rfl⟩) _, rfl⟩, ⟨hh, hIN.chg (Chg.setCell (S := (· = gl)) (Chg.refl _ _) (p := ⟨gl, i, none⟩) (.inr rfl) _) (fun j e e' => hnli (by have := own_blk e; omega))⟩⟩
  go_simp
  with_reducible refine hK _ ?_
  clear hK K
  refine lx_next 1 (by rfl) (by decide) ?_
  dsimp only [List.take, List.drop]
  repeat (go_big_quiet_step (fail))
  refine wpQuiet_nil ?_
  refine lx_loud (by rfl) (by kernel_rfl) ?_ (fun K hK => ?_)
  · intro L w3 hL hd hcl hC hg
    obtain ⟨z, rfl⟩ := hC
    have ho := hg.inn
    rw [hL] at ho
    have ho' : OwnB z.world N (.slice (some ⟨gi, 0, none⟩) n ci) g.inn := ho
    have hh := ho'.set (i := i) HGI.out.symm xi
    obtain ⟨u1, u2⟩ := own_cell (i := i) (u := .bool (g.inn[i]'(by rw [HGI.out]; exact hi))) (by unfold OwnB at ho'; rw [HGI.out] at ho'; exact ho') (by simp [HGI.out, hi])
    have hlt := lt_of_cell u1
    have hLE := hg.left
    clear ho ho' hg
    go_wp2
    exact ⟨⟨z.setCell (.inr ⟨.inr rfl, rfl⟩) _, rfl⟩, ⟨hLE.chg (Chg.setCell (S := (· = gi)) (Chg.refl _ _) (p := ⟨gi, i, none⟩) (.inr rfl) _) (fun j e e' => hnli (by have := own_blk e; omega)), hh⟩⟩
  go_simp
  with_reducible refine hK _ ?_
  clear hK K
  refine lx_nil ?_
  intro z hG
  have hl6 : OwnI z.world N (.slice (some ⟨gl, 0, none⟩) n cl) (g.left.set i xl) := hG.left
  have hi6 : OwnB z.world N (.slice (some ⟨gi, 0, none⟩) n ci) (g.inn.set i xi) := hG.inn
  have hd6 := HD5.out.chg z.chg (by rintro j e ⟨_, h1, _⟩; have := own_blk e; rcases h1 with h1 | h1 <;> omega)
  have hE6 : Ext w z.world := Chg.to_ext hZ z.chg (by rintro j ⟨_, h1, _⟩; rcases h1 with h1 | h1 <;> omega)
  have hb3 := H35.out.chg z.chg (by rintro ⟨_, h1, _⟩; rcases h1 with h1 | h1 <;> omega)
  have hb4 := H45.out.chg z.chg (by rintro ⟨_, h1, _⟩; rcases h1 with h1 | h1 <;> omega)
  have hb5 := H55.out.chg z.chg (by rintro ⟨_, h1, _⟩; rcases h1 with h1 | h1 <;> omega)
  have hb6 := H65.out.chg z.chg (by rintro ⟨_, h1, _⟩; rcases h1 with h1 | h1 <;> omega)
  have hbx := HX5.out.chg z.chg (by rintro ⟨_, h1, _⟩; rcases h1 with h1 | h1 <;> omega)
  generalize z.world = w6 at *
  have H36 := Lib.hid hb3
  have H46 := Lib.hid hb4
  have H56 := Lib.hid hb5
  have H66 := Lib.hid hb6
  have HX6 := Lib.hid hbx
  have HL6 := Lib.hid hl6
  have HD6 := Lib.hid hd6
  have HI6 := Lib.hid hi6
  clear hG hl6 hi6 hd6 hZ hb3 hb4 hb5 hb6 hbx hu hT hne z c40 c42 c50 x0 x3 H35 H45 H55 H65 HX5 HL5 HD5 HI5 m1 m2 m3 m4 m5 m6 hlt4 hlt5 hltx
  obtain ⟨dd, hdd⟩ : ∃ dd, g.darts.getD i 0 = dd := ⟨_, rfl⟩
  have HDD := Lib.hid hdd
  have hdr := HI.out.dart i
  rw [hdd] at hdr
  have hdg : g.darts[i]? = some dd := by rw [← hdd, List.getD_eq_getElem?_getD, List.getElem?_eq_getElem (by rw [HGD.out]; exact hi)]; rfl
  have HDD := Lib.hid hdd
  have HDG := Lib.hid hdg
  clear hdd hdg
  have c41 := H46.out.cell 1 (v := .slice (some ⟨gd, 0, none⟩) n cd) rfl
  have c50 := H56.out.cell 0 (v := .int .i64 i) rfl
  have x2 := HX6.out.cell 2 (v := .int .i64 xd) rfl
  have hlt4 := H46.out.lt
  have hlt5 := H56.out.lt
  have hltx := HX6.out.lt
  have m1 : w.heap.size + 1 ≠ gd := by omega
  have m3 : w.heap.size + 1 + 1 ≠ gd := by omega
  have m5 : k10 ≠ gd := by omega
  go_wp2
  refine wp_region_lat (by kernel_rfl) (fun b' o => b' = gd ∧ o = i) (fun k => k == 6 || k == 11) (fun j v => j = 6 → v = .int .i64 dd)
    (fun L _ w' => OwnI w' N (.slice (some ⟨gd, 0, none⟩) n cd) (bif L 11 then g.darts.set i (dd + xd) else g.darts))
    (by kernel_rfl) (fun k hk => by simp only [Bool.or_eq_true, beq_iff_eq] at hk; show k < 12; omega)
    (fun L L' u w hh hg => by rw [hh 11 rfl]; exact hg)
    (fun L u w w' hg hx => hg.ext hx)
    (fun _ => .int .i64 dd) (fun j hj _ => rfl)
    (HD6.out.ext (Ext.refl _).drew) ?_
  intro T hT hne u hu
  have u6 := hu 6 rfl rfl
  refine lx_next 6 (by rfl) (by decide) ?_
  dsimp only [List.take, List.drop]
  repeat (go_big_quiet_step (fail))
  refine wpQuiet_nil ?_
  refine lx_loud (by rfl) (by kernel_rfl) ?_ (fun K hK => ?_)
  · intro L w3 hL hd hcl hC hg
    obtain ⟨z, rfl⟩ := hC
    have h11 := hcl.off hL 30 11 (by kernel_rfl)
    have ho := hg
    rw [h11] at ho
    have ho' : OwnI z.world N (.slice (some ⟨gd, 0, none⟩) n cd) g.darts := ho
    obtain ⟨u1, u2⟩ := own_cell (i := i) (u := .int .i64 dd) (by unfold OwnI at ho'; rw [HGD.out] at ho'; exact ho') (by rw [List.getElem?_map, HDG.out]; rfl)
    have hlt := lt_of_cell u1
    have HG := Lib.hid hg
    clear ho ho' hg
    go_wp2
    exact ⟨rfl, ⟨z, rfl⟩, HG.out⟩
  rw [u6]
  go_simp
  with_reducible refine hK _ ?_
  clear hK K
  refine lx_next 4 (by rfl) (by decide) ?_
  dsimp only [List.take, List.drop]
  repeat (go_big_quiet_step (fail))
  refine wpQuiet_nil ?_
  refine lx_loud (by rfl) (by kernel_rfl) ?_ (fun K hK => ?_)
  · intro L w3 hL hd hcl hC hg
    obtain ⟨z, rfl⟩ := hC
    have ho := hg
    rw [hL] at ho
    have ho' : OwnI z.world N (.slice (some ⟨gd, 0, none⟩) n cd) g.darts := ho
    have hh := ho'.set (i := i) HGD.out.symm (dd + xd)
    obtain ⟨u1, u2⟩ := own_cell (i := i) (u := .int .i64 dd) (by unfold OwnI at ho'; rw [HGD.out] at ho'; exact ho') (by rw [List.getElem?_map, HDG.out]; rfl)
    have hlt := lt_of_cell u1
    clear ho ho' hg
    go_wp2
    exact ⟨⟨z.setCell (.inr ⟨rfl, rfl⟩) _, rfl⟩, hh⟩
  go_simp
  with_reducible refine hK _ ?_
  clear hK K
  refine lx_nil ?_
  intro z hG
  have hd7 : OwnI z.world N (.slice (some ⟨gd, 0, none⟩) n cd) (g.darts.set i (dd + xd)) := hG
  have hl7 := HL6.out.chg z.chg (by rintro j e ⟨_, h1, _⟩; have := own_blk e; omega)
  have hi7 := HI6.out.chg z.chg (by rintro j e ⟨_, h1, _⟩; have := own_blk e; omega)
  have hE7 : Ext w z.world := Chg.to_ext hE6 z.chg (by rintro j ⟨_, h1, _⟩; omega)
  have hb3 := H36.out.chg z.chg (by rintro ⟨_, h1, _⟩; omega)
  have hb4 := H46.out.chg z.chg (by rintro ⟨_, h1, _⟩; omega)
  have hb5 := H56.out.chg z.chg (by rintro ⟨_, h1, _⟩; omega)
  have hb6 := H66.out.chg z.chg (by rintro ⟨_, h1, _⟩; omega)
  have hbx := HX6.out.chg z.chg (by rintro ⟨_, h1, _⟩; omega)
  generalize z.world = w7 at *
  have H37 := Lib.hid hb3
  have H47 := Lib.hid hb4
  have H57 := Lib.hid hb5
  have H67 := Lib.hid hb6
  have HX7 := Lib.hid hbx
  have HL7 := Lib.hid hl7
  have HD7 := Lib.hid hd7
  have HI7 := Lib.hid hi7
  clear hG hl7 hi7 hd7 hE6 hb3 hb4 hb5 hb6 hbx hu u6 hT hne z c41 c50 x2 H36 H46 H56 H66 HX6 HL6 HD6 HI6 m1 m3 m5 hlt4 hlt5 hltx
  have hdone := HI.out.done
  rw [HN.out] at hdone
  obtain ⟨hdn0, hdn1⟩ := hdone
  have c416 := H47.out.cell 16 (v := .int .i64 g.done) rfl
  have c50 := H57.out.cell 0 (v := .int .i64 i) rfl
  have hlt4 := H47.out.lt
  have hlt5 := H57.out.lt
  have m1 : w.heap.size + 1 + 1 ≠ w.heap.size + 1 := by omega
  go_wp2
  refine wp_region_lat (by kernel_rfl) (fun b' o => b' = w.heap.size + 1 ∧ (o = 3 ∨ o = 16)) (fun k => k == 6 || k == 10 || k == 12) (fun j v => j = 6 → v = .int .i64 g.done)
    (fun L _ w' => Blk w' (w.heap.size + 1) (legL (.slice (some ⟨gl, 0, none⟩) n cl) (.slice (some ⟨gd, 0, none⟩) n cd) (.slice (some ⟨gi, 0, none⟩) n ci) (bif L 10 then ((i : Int) + 1) % (n : Int) else (i : Int)) g.round false (.slice wa g.winners.length wc') (.slice ea E.length ec) ls (bif L 12 then g.done + 1 else g.done)))
    (by kernel_rfl) (fun k hk => by simp only [Bool.or_eq_true, beq_iff_eq] at hk; show k < 13; omega)
    (fun L L' u w hh hg => by rw [hh 10 rfl, hh 12 rfl]; exact hg)
    (fun L u w w' hg hx => hg.ext hx)
    (fun _ => .int .i64 g.done) (fun j hj _ => rfl)
    (H47.out.ext (Ext.refl _).drew) ?_
  intro T hT hne u hu
  have u6 := hu 6 rfl rfl
  refine lx_next 6 (by rfl) (by decide) ?_
  dsimp only [List.take, List.drop]
  repeat (go_big_quiet_step (fail))
  refine wpQuiet_nil ?_
  refine lx_loud (by rfl) (by kernel_rfl) ?_ (fun K hK => ?_)
  · intro L w3 hL hd hcl hC hg
    obtain ⟨z, rfl⟩ := hC
    have h12 := hcl.off hL 30 12 (by kernel_rfl)
    rw [h12] at hg
    have hcc := hg.cell 16 (v := .int .i64 g.done) rfl
    have hzs := hg.lt
    have HG := Lib.hid hg
    clear hg
    go_wp2
    refine ⟨rfl, ⟨z, rfl⟩, ?_⟩
    simp only [upd]
    rw [h12]
    exact HG.out
  rw [u6]
  go_simp
  with_reducible refine hK _ ?_
  clear hK K
  refine lx_next 3 (by rfl) (by decide) ?_
  dsimp only [List.take, List.drop]
  repeat (go_big_quiet_step (fail))
  refine wpQuiet_nil ?_
  refine lx_loud (by rfl) (by kernel_rfl) ?_ (fun K hK => ?_)
  · intro L w3 hL hd hcl hC hg
    obtain ⟨z, rfl⟩ := hC
    have f4 := hg.frozen 3
    have hcc := hg.cell 3 rfl
    have hzs := hg.lt
    have hh := hg.set 3 (.int .i64 (((i : Int) + 1) % (n : Int)))
    clear hg
    go_wp2
    exact ⟨⟨z.setCell (.inr ⟨rfl, .inl rfl⟩) _, rfl⟩, hh⟩
  go_simp
  with_reducible refine hK _ ?_
  clear hK K
  refine lx_next 1 (by rfl) (by decide) ?_
  dsimp only [List.take, List.drop]
  repeat (go_big_quiet_step (fail))
  refine wpQuiet_nil ?_
  refine lx_loud (by rfl) (by kernel_rfl) ?_ (fun K hK => ?_)
  · intro L w3 hL hd hcl hC hg
    obtain ⟨z, rfl⟩ := hC
    have f4 := hg.frozen 16
    have hcc := hg.cell 16 rfl
    have hzs := hg.lt
    have hh := hg.set 16 (.int .i64 (g.done + 1))
    clear hg
    go_wp2
    exact ⟨⟨z.setCell (.inr ⟨rfl, .inr rfl⟩) _, rfl⟩, hh⟩
  go_simp
  with_reducible refine hK _ ?_
  clear hK K
  refine lx_nil ?_
  intro z hG
  have hb4 : Blk z.world (w.heap.size + 1) (legL (.slice (some ⟨gl, 0, none⟩) n cl) (.slice (some ⟨gd, 0, none⟩) n cd) (.slice (some ⟨gi, 0, none⟩) n ci) (((i : Int) + 1) % (n : Int)) g.round false (.slice wa g.winners.length wc') (.slice ea E.length ec) ls (g.done + 1)) := hG
  have hE8 : Ext w z.world := Chg.to_ext hE7 z.chg (by rintro j ⟨_, h1, _⟩; omega)
  have hM : MidS w r n (some ⟨cb, co, none⟩) cc i beds ba bc k10 N ea (.slice (some ⟨gl, 0, none⟩) n cl) (.slice (some ⟨gd, 0, none⟩) n cd) (.slice (some ⟨gi, 0, none⟩) n ci) (.slice wa g.winners.length wc') (((i : Int) + 1) % (n : Int)) g.round (g.done + 1) (g.left.set i xl) (g.darts.set i (dd + xd)) (g.inn.set i xi) xl xs xd xi xb xw E ls z.world := by
    refine ⟨?_, ⟨_, _, hb4, HRC.out.ended.ext hE8, HRC.out.nended, fun h ad e => by have := HRC.out.ended.low h ad e; exact ⟨by omega, by omega⟩, fun ad e => .inl e⟩, ?_, ?_, ?_, ?_, ?_, ?_, hE8⟩
    · exact H37.out.chg z.chg (by rintro ⟨_, h1, _⟩; omega)
    · exact H57.out.chg z.chg (by rintro ⟨_, h1, _⟩; omega)
    · exact H67.out.chg z.chg (by rintro ⟨_, h1, _⟩; omega)
    · exact HX7.out.chg z.chg (by rintro ⟨_, h1, _⟩; omega)
    · exact HL7.out.chg z.chg (by rintro j e ⟨_, h1, _⟩; have := own_blk e; omega)
    · exact HD7.out.chg z.chg (by rintro j e ⟨_, h1, _⟩; have := own_blk e; omega)
    · exact HI7.out.chg z.chg (by rintro j e ⟨_, h1, _⟩; have := own_blk e; omega)
  have HM := Lib.hid hM
  have hxt := hM.thr.cell 5 (v := .bool xw) rfl
  have hltx := hM.thr.lt
  generalize z.world = w8 at *
  clear hG hb4 hM hE8 hE7 hu u6 hT hne z c416 c50 H37 H47 H57 H67 HX7 HL7 HD7 HI7 m1 hlt4 hlt5
  have hn8 : n ≤ 8 := hlen.2
  have hlsl := HRI.out.len
  have HLSL := Lib.hid hlsl
  have hEk := HRI.out.short
  clear hlsl
  go_upto_if 130 with fail
  go_cut [9] (fun s wx => s = .int .i64 n ∧ MidS w r n (some ⟨cb, co, none⟩) cc i beds ba bc k10 N ea (.slice (some ⟨gl, 0, none⟩) n cl) (.slice (some ⟨gd, 0, none⟩) n cd) (.slice (some ⟨gi, 0, none⟩) n ci) (.slice wa g.winners.length wc') (((i : Int) + 1) % (n : Int)) g.round (g.done + 1) (g.left.set i xl) (g.darts.set i (dd + xd)) (g.inn.set i xi) xl xs xd xi xb xw (endE E i ⟨xl, xs, xd, xi, xb, xw⟩) (endL ls i ⟨xl, xs, xd, xi, xb, xw⟩) wx)
  case first =>
    cases xw
    · go_wp2
      go_meet
      exact ⟨rfl, HM.out⟩
    · obtain ⟨ea', ec', hb4, hce, hne, hbl', -⟩ := HM.out.leg
      have HBLE := Lib.hid hbl'
      clear hbl'
      have c47 := hb4.cell 7 (v := .slice ea' E.length ec') rfl
      have c50 := HM.out.vis.cell 0 (v := .int .i64 i) rfl
      have hlt4 := hb4.lt
      have hlt5 := HM.out.vis.lt
      have HB4 := Lib.hid hb4
      have HCE := Lib.hid hce
      have HNE := Lib.hid hne
      have m1 : w.heap.size + 1 + 1 ≠ w.heap.size + 1 := by omega
      have hM8 : w.heap.size + 1 + 1 + 1 < w8.heap.size := HM.out.out.lt
      clear hb4 hce hne
      generalize hMM : w8.heap.size = M at *
      have HMM := Lib.hid hMM
      go_wp2
      refine wp_region_lat (by kernel_rfl) (fun b' o => b' = w.heap.size + 1 ∧ o = 7) (fun k => k == 0 || k == 2 || k == 3 || k == 6 || k == 7 || k == 9) (EnR E.length (.slice ea' E.length ec'))
        (EnG (w.heap.size + 1) M (fun q => legL (.slice (some ⟨gl, 0, none⟩) n cl) (.slice (some ⟨gd, 0, none⟩) n cd) (.slice (some ⟨gi, 0, none⟩) n ci) (((i : Int) + 1) % (n : Int)) g.round false (.slice wa g.winners.length wc') q ls (g.done + 1)) (.slice ea' E.length ec') E i)
        (by kernel_rfl) (fun k hk => by simp only [Bool.or_eq_true, beq_iff_eq] at hk; show k < 10; omega)
        (fun L L' u w hh hg => ⟨by rw [hh 9 rfl]; exact hg.blk, by rw [hh 0 rfl, hh 3 rfl]; exact hg.o0, by rw [hh 3 rfl, hh 7 rfl]; exact hg.o3, by rw [hh 7 rfl]; exact hg.o7, by rw [hh 6 rfl, hh 7 rfl]; exact hg.box, by rw [hh 0 rfl, hh 3 rfl, hh 6 rfl]; exact hg.dis⟩)
        (fun L u w w' hg hx => hg.mono hx)
        (fun j => if j = 0 then .slice (some ⟨0, 0, none⟩) 0 0 else if j = 2 then .slice ea' E.length ec' else if j = 3 then .slice none E.length 0 else if j = 6 then .slice (some ⟨0, 0, none⟩) 1 1 else .slice none (E.length + 1) 0)
        (fun j hj => ⟨fun h => by subst h; exact ⟨0, rfl⟩, fun h => by subst h; rfl, fun h => by subst h; exact ⟨none, 0, rfl⟩, fun h => by subst h; exact ⟨0, rfl⟩, fun h => by subst h; exact ⟨none, 0, rfl⟩⟩)
        ⟨HB4.out.drew, fun h => (by cases h), fun h => (by cases h), fun h => (by cases h), fun h => (by cases h), fun h => (by cases h)⟩ ?_
      intro T hT hne u hu
      obtain ⟨k0, u0⟩ := (hu 0 rfl).one rfl
      have u2 := (hu 2 rfl).load rfl
      obtain ⟨a3, c3, u3⟩ := (hu 3 rfl).app rfl
      obtain ⟨k6, u6⟩ := (hu 6 rfl).box rfl
      obtain ⟨a7, c7, u7⟩ := (hu 7 rfl).fin rfl
      refine lx_loud (by rfl) (by kernel_rfl) ?_ (fun K hK => ?_)
      · intro L w3 hL hd hcl hC hg
        obtain ⟨z, rfl⟩ := hC
        have hX := hcl.off hL 30 3 (by kernel_rfl)
        have hx9 := (Ext.refl z.world).alloc (.cells #[] 3)
        have hzs : M ≤ z.world.heap.size := by have := z.size; omega
        have hm := hg.mono hx9
        go_wp2
        refine ⟨⟨fun _ => ⟨_, rfl⟩, fun h => absurd h (by decide), fun h => absurd h (by decide), fun h => absurd h (by decide), fun h => absurd h (by decide)⟩, ⟨z.ext hx9, rfl⟩, ⟨hm.blk, fun _ _ => own_empty rfl hzs, hm.o3, hm.o7, hm.box, ?_⟩⟩
        intro _ h6 j e1 e2
        have e1' : (bif L 3 then u 3 else .slice (some ⟨z.world.heap.size, 0, none⟩) 0 0 : Value).ownBlock = some j := e1
        rw [hX] at e1'
        have e3 := own_blk e1'
        obtain ⟨kb, e6, hb6⟩ := hg.box h6 (hcl.off hL 30 7 (by kernel_rfl))
        have e2' : (u 6).ownBlock = some j := e2
        rw [e6] at e2'
        have e4 := own_blk e2'
        have := (Array.getElem?_eq_some_iff.1 hb6).1
        omega
      rw [u0]
      go_simp
      with_reducible refine hK _ ?_
      clear hK K
      refine lx_next 1 (by rfl) (by decide) ?_
      dsimp only [List.take, List.drop]
      repeat (go_big_quiet_step (fail))
      refine wpQuiet_nil ?_
      refine lx_loud (by rfl) (by kernel_rfl) ?_ (fun K hK => ?_)
      · intro L w3 hL hd hcl hC hg
        obtain ⟨z, rfl⟩ := hC
        have h9 := hcl.off hL 30 9 (by kernel_rfl)
        have hb := hg.blk
        rw [h9] at hb
        have hcc := hb.cell 7 (v := .slice ea' E.length ec') rfl
        have hzs := hb.lt
        have HG := Lib.hid hg
        clear hb hg
        go_wp2
        exact ⟨⟨fun h => absurd h (by decide), fun _ => rfl, fun h => absurd h (by decide), fun h => absurd h (by decide), fun h => absurd h (by decide)⟩, ⟨z, rfl⟩, ⟨HG.out.blk, HG.out.o0, HG.out.o3, HG.out.o7, HG.out.box, HG.out.dis⟩⟩
      rw [u2]
      go_simp
      with_reducible refine hK _ ?_
      clear hK K
      refine lx_loud (by rfl) (by kernel_rfl) ?_ (fun K hK => ?_)
      · intro L w3 hL hd hcl hC hg
        obtain ⟨z, rfl⟩ := hC
        have ho := hg.o0 (hd 0 (by kernel_rfl)) hL
        rw [u0] at ho
        have hzN : M ≤ z.world.heap.size := by have := z.size; omega
        have hcz : CellsAt z.world .i64 ea' E := HCE.out.chg z.chg (fun h ad e h9 => (HBLE.out h ad e).1 (by obtain ⟨_, h1, _⟩ := h9; exact h1))
        have HCZ := Lib.hid hcz
        clear hcz
        have h7 := hcl.off hL 30 7 (by kernel_rfl)
        have h9 := hcl.off hL 30 9 (by kernel_rfl)
        refine wp_append_vals_at rfl _ _ 48 3 _ 1 8 rfl info_int (by kernel_rfl) rfl (by decide) M (.slice (some ⟨k0, 0, none⟩) 0 0) 0 [] rfl ho ea' E.length ec' (E.map (Value.int .i64)) rfl HNE.out (by simp) (CellsAt.vals HCZ.out) (ints_one _ _) (by omega) (by omega) hzN ?_
        intro v' w4 ho4 hg4 hat4
        have hob := own_lt ho
        have hC4 := grown_chg hg4
        have hO4 : OwnI w4 M v' E := by unfold OwnI; simpa using ho4
        obtain ⟨qa, qc, rfl, -⟩ := hO4.cells
        have HO4 := Lib.hid hO4
        have HAT := Lib.hid hat4
        clear ho4 hO4 hat4
        go_wp2
        refine ⟨⟨fun h => absurd h (by decide), fun h => absurd h (by decide), fun _ => ⟨_, _, rfl⟩, fun h => absurd h (by decide), fun h => absurd h (by decide)⟩, ⟨z.chgd hC4 (fun j e => .inl (by have := (hob j e).1; omega)), rfl⟩, ⟨?_, fun _ h => (by simp [upd] at h), fun _ _ => HO4.out, fun h => (by simp [upd, h7] at h), fun h1 h2 => ?_, ?_⟩⟩
        · have := hg.blk.chg hC4 (fun e => by have := (hob _ e).1; omega)
          rw [h9] at this
          simp only [upd]
          rw [h9]
          exact this
        · obtain ⟨kb, e6, hb6⟩ := hg.box h1 h7
          refine ⟨kb, e6, hC4.heap hb6 (fun e => ?_)⟩
          have h3 := hg.dis (hd 0 (by kernel_rfl)) h1 kb
          rw [hL, u0] at h3
          exact h3 e (by rw [e6]; rfl)
        · intro _ h6 j e1 e2
          rcases HAT.out with h | h
          · have h3 := hg.dis (hd 0 (by kernel_rfl)) h6 j
            rw [hL, u0] at h3
            exact h3 (h.symm.trans e1) e2
          · have e3 : some z.world.heap.size = some j := h.symm.trans e1
            have e4 := Option.some.inj e3
            obtain ⟨kb, e6, hb6⟩ := hg.box h6 h7
            have e2' : (u 6).ownBlock = some j := e2
            rw [e6] at e2'
            have e5 := own_blk e2'
            have := (Array.getElem?_eq_some_iff.1 hb6).1
            omega
      rw [u3]
      go_simp
      with_reducible refine hK _ ?_
      clear hK K
      refine lx_next 2 (by rfl) (by decide) ?_
      dsimp only [List.take, List.drop]
      repeat (go_big_quiet_step (fail))
      refine wpQuiet_nil ?_
      refine lx_loud (by rfl) (by kernel_rfl) ?_ (fun K hK => ?_)
      · intro L w3 hL hd hcl hC hg
        obtain ⟨z, rfl⟩ := hC
        have h7 := hcl.off hL 30 7 (by kernel_rfl)
        have hx9 := (Ext.refl z.world).alloc (.cells #[.int .i64 i] 3)
        have hm := hg.mono hx9
        go_wp2
        refine ⟨⟨fun h => absurd h (by decide), fun h => absurd h (by decide), fun h => absurd h (by decide), fun _ => ⟨_, rfl⟩, fun h => absurd h (by decide)⟩, ⟨z.ext hx9, rfl⟩, ⟨hm.blk, hm.o0, hm.o3, hm.o7, fun _ _ => ⟨z.world.heap.size, rfl, heap_new _ _⟩, ?_⟩⟩
        intro h0 _ j e1 e2
        have e3 : some z.world.heap.size = some j := e2
        have e4 := Option.some.inj e3
        have := hg.lt1 h0 h7 j e1
        omega
      rw [u6]
      go_simp
      with_reducible refine hK _ ?_
      clear hK K
      refine lx_loud (by rfl) (by kernel_rfl) ?_ (fun K hK => ?_)
      · intro L w3 hL hd hcl hC hg
        obtain ⟨z, rfl⟩ := hC
        have h3 : L 3 = true := hd 3 (by kernel_rfl)
        have h6 : L 6 = true := hd 6 (by kernel_rfl)
        have h9 := hcl.off hL 30 9 (by kernel_rfl)
        obtain ⟨kb, e6, hb6⟩ := hg.box h6 hL
        obtain rfl : kb = k6 := by rw [u6] at e6; cases e6; rfl
        have ho := hg.o3 h3 hL
        rw [u3] at ho
        have hzN : M ≤ z.world.heap.size := by have := z.size; omega
        have hob := own_lt (ho : z.world.ownsRow _ _ _ _ _ _)
        refine wp_append_i rfl _ _ rfl M (.slice a3 E.length c3) E rfl ho ⟨kb, 0, none⟩ 1 i rfl (by simp [World.cell?, hb6]) (by omega) hzN ?_
        intro v' w4 hO4 hg4
        have hC4 := grown_chg hg4
        obtain ⟨qa, qc, hq, -⟩ := hO4.cells
        rw [show (E ++ [(i : Int)]).length = E.length + 1 by simp] at hq
        subst hq
        have HO4 := Lib.hid hO4
        clear hO4
        go_wp2
        refine ⟨⟨fun h => absurd h (by decide), fun h => absurd h (by decide), fun h => absurd h (by decide), fun h => absurd h (by decide), fun _ => ⟨_, _, rfl⟩⟩, ⟨z.chgd hC4 (fun j e => .inl (by have := (hob j e).1; omega)), rfl⟩, ⟨?_, fun _ h => (by simp [upd, h3] at h), fun _ h => (by simp [upd] at h), fun _ => HO4.out, fun _ h => (by simp [upd] at h), hg.dis⟩⟩
        have := hg.blk.chg hC4 (fun e => by have := (hob _ e).1; omega)
        rw [h9] at this
        simp only [upd]
        rw [h9]
        exact this
      rw [u7]
      go_simp
      with_reducible refine hK _ ?_
      clear hK K
      refine lx_next 1 (by rfl) (by decide) ?_
      dsimp only [List.take, List.drop]
      repeat (go_big_quiet_step (fail))
      refine wpQuiet_nil ?_
      refine lx_loud (by rfl) (by kernel_rfl) ?_ (fun K hK => ?_)
      · intro L w3 hL hd hcl hC hg
        obtain ⟨z, rfl⟩ := hC
        have f4 := hg.blk.frozen 7
        have hcc := hg.blk.cell 7 rfl
        have hzs := hg.blk.lt
        have h7 : L 7 = true := hd 7 (by kernel_rfl)
        have hset := Chg.setCell (S := (· = w.heap.size + 1)) (Chg.refl _ z.world) (p := ⟨w.heap.size + 1, 7, none⟩) (.inr rfl) (.slice a7 (E.length + 1) c7)
        go_wp2
        refine ⟨⟨fun h => absurd h (by decide), fun h => absurd h (by decide), fun h => absurd h (by decide), fun h => absurd h (by decide), fun h => absurd h (by decide)⟩, ⟨z.setCell (.inr ⟨rfl, rfl⟩) _, rfl⟩, ⟨?_, fun h1 h2 => own_chg (hg.o0 h1 h2) hset (fun j e e' => by have := (own_lt (hg.o0 h1 h2) j e).1; omega), fun h1 h2 => (hg.o3 h1 h2).chg hset (fun j e e' => by have := (own_lt (hg.o3 h1 h2) j e).1; omega), fun h1 => (hg.o7 h1).chg hset (fun j e e' => by have := (own_lt (hg.o7 h1) j e).1; omega), fun _ h => (by simp [upd, h7] at h), hg.dis⟩⟩
        have := hg.blk.set 7 (.slice a7 (E.length + 1) c7)
        simp only [upd, updv]
        rw [u7]
        exact this
      go_simp
      with_reducible refine hK _ ?_
      clear hK K
      refine lx_nil ?_
      intro z hG
      have hb9 := hG.blk
      have ho9 := hG.o7 rfl
      simp only [cond_true] at hb9
      rw [u7] at hb9 ho9
      have hC9 := z.chg
      have hM9 : MidS w r n (some ⟨cb, co, none⟩) cc i beds ba bc k10 N ea (.slice (some ⟨gl, 0, none⟩) n cl) (.slice (some ⟨gd, 0, none⟩) n cd) (.slice (some ⟨gi, 0, none⟩) n ci) (.slice wa g.winners.length wc') (((i : Int) + 1) % (n : Int)) g.round (g.done + 1) (g.left.set i xl) (g.darts.set i (dd + xd)) (g.inn.set i xi) xl xs xd xi xb true (E ++ [(i : Int)]) ls z.world := by
        obtain ⟨oa, oc, hoe, hoc⟩ := ho9.cells
        rw [show (E ++ [(i : Int)]).length = E.length + 1 by simp] at hoe
        obtain ⟨rfl, rfl⟩ : a7 = oa ∧ c7 = oc := by injection hoe with a1 _ a3; exact ⟨a1, a3⟩
        have ho9' : z.world.ownsRow M 3 1 (.slice a7 (E.length + 1) c7) (E.length + 1) ((E ++ [(i : Int)]).map (Value.int .i64)) := by
          have h2 := ho9
          unfold OwnI at h2
          rw [show (E ++ [(i : Int)]).length = E.length + 1 by simp] at h2
          exact h2
        refine ⟨HM.out.rul.chg hC9 (by rintro ⟨_, h1, _⟩; omega), ⟨a7, c7, by rw [show (E ++ [(i : Int)]).length = E.length + 1 by simp]; exact hb9, hoc, fun h => ?_, fun _ ad e => ?_, fun ad e => ?_⟩, HM.out.vis.chg hC9 (by rintro ⟨_, h1, _⟩; omega), HM.out.out.chg hC9 (by rintro ⟨_, h1, _⟩; omega), HM.out.thr.chg hC9 (by rintro ⟨_, h1, _⟩; omega), HM.out.left.chg hC9 (by rintro j e ⟨_, h1, _⟩; have := own_blk e; omega), HM.out.darts.chg hC9 (by rintro j e ⟨_, h1, _⟩; have := own_blk e; omega), HM.out.inn.chg hC9 (by rintro j e ⟨_, h1, _⟩; have := own_blk e; omega), Chg.to_ext HM.out.ext hC9 (by rintro j ⟨_, h1, _⟩; omega)⟩
        · exact absurd (own_nil0 ho9' h).1 (Nat.succ_ne_zero _)
        · subst e
          have := (own_lt ho9' ad.block rfl).1
          exact ⟨by omega, by omega⟩
        · subst e
          have := own_lt ho9' ad.block rfl
          exact .inr ⟨by omega, this.2⟩
      have HM9 := Lib.hid hM9
      have hE9 := HM9.out.ext
      generalize z.world = w9 at *
      clear hG hb9 ho9 hC9 hM9 u0 u2 u3 u6 u7 hu hT hne z c47 c50 hxt HB4 HCE HNE m1 HM
      obtain ⟨ea9, ec9, hb9, hce9, hne9, hbl9, hav9⟩ := HM9.out.leg
      have p8 := hb9.cell (8 + i) (legL_last _ _ _ _ _ _ _ _ _ _ (p := i) (by omega))
      have f8 := hb9.frozen (8 + i)
      have c50 := HM9.out.vis.cell 0 (v := .int .i64 i) rfl
      have x2 := HM9.out.thr.cell 2 (v := .int .i64 xd) rfl
      have hlt9 := hb9.lt
      have hi8 : i < 8 := by omega
      have hset := Chg.setCell (S := (· = w.heap.size + 1)) (Chg.refl _ w9) (p := ⟨w.heap.size + 1, 8 + i, none⟩) (.inr rfl) (.int .i64 xd)
      have hb10 := hb9.set (8 + i) (.int .i64 xd)
      rw [legL_set _ _ _ _ _ _ _ _ _ _ HLSL.out hi8] at hb10
      have HB10 := Lib.hid hb10
      have HSET := Lib.hid hset
      have hce10 := hce9.chg HSET.out (fun h ad e e2 => (hbl9 h ad e).1 e2)
      have hM10 : MidS w r n (some ⟨cb, co, none⟩) cc i beds ba bc k10 N ea (.slice (some ⟨gl, 0, none⟩) n cl) (.slice (some ⟨gd, 0, none⟩) n cd) (.slice (some ⟨gi, 0, none⟩) n ci) (.slice wa g.winners.length wc') (((i : Int) + 1) % (n : Int)) g.round (g.done + 1) (g.left.set i xl) (g.darts.set i (dd + xd)) (g.inn.set i xi) xl xs xd xi xb true (E ++ [(i : Int)]) (ls.set i xd) (w9.setCell ⟨w.heap.size + 1, 8 + i, none⟩ (.int .i64 xd)) :=
        ⟨HM9.out.rul.chg HSET.out (by omega), ⟨ea9, ec9, HB10.out, hce10, hne9, hbl9, fun ad e => (hav9 ad e).imp id fun h => ⟨h.1, Nat.lt_of_lt_of_le h.2 HSET.out.size⟩⟩, HM9.out.vis.chg HSET.out (by omega), HM9.out.out.chg HSET.out (by omega), HM9.out.thr.chg HSET.out (by omega), HM9.out.left.chg HSET.out (fun j e e2 => by have := own_blk e; omega), HM9.out.darts.chg HSET.out (fun j e e2 => by have := own_blk e; omega), HM9.out.inn.chg HSET.out (fun j e e2 => by have := own_blk e; omega), Chg.to_ext HM9.out.ext HSET.out (fun j e => by omega)⟩
      have HM10 := Lib.hid hM10
      clear hb9 hb10 hset hce10 hM10 hce9 hne9 hbl9 hav9
      go_wp2
      go_meet
      exact ⟨rfl, HM10.out⟩
  case rest =>
    obtain ⟨rfl, hM9⟩ := hcut
    have HM9 := Lib.hid hM9
    obtain ⟨ea9, ec9, hb9, hce9, hne9, hbl9, -⟩ := hM9.leg
    have c416 := hb9.cell 16 (v := .int .i64 (g.done + 1)) rfl
    have c44 := hb9.cell 4 (v := .int .i64 g.round) rfl
    have f416 := hb9.frozen 16
    have f44 := hb9.frozen 4
    have hlt4 := hb9.lt
    have hround := HI.out.round
    have HB9 := Lib.hid hb9
    clear hM9 hb9 hce9 hne9 hbl9 HM hxt
    obtain ⟨E1, hE1⟩ : ∃ E1, endE E i ⟨xl, xs, xd, xi, xb, xw⟩ = E1 := ⟨_, rfl⟩
    obtain ⟨ls1, hls1⟩ : ∃ ls1, endL ls i ⟨xl, xs, xd, xi, xb, xw⟩ = ls1 := ⟨_, rfl⟩
    rw [hE1, hls1] at HM9 HB9
    have HEE := Lib.hid hE1
    have HLL := Lib.hid hls1
    clear hE1 hls1
    go_upto_if 149 with fail
    go_cut [9] (fun s wx => s = .int .i64 n ∧ MidS w r n (some ⟨cb, co, none⟩) cc i beds ba bc k10 N ea (.slice (some ⟨gl, 0, none⟩) n cl) (.slice (some ⟨gd, 0, none⟩) n cd) (.slice (some ⟨gi, 0, none⟩) n ci) (.slice wa g.winners.length wc') (((i : Int) + 1) % (n : Int)) (if g.done + 1 = n then g.round + 1 else g.round) (if g.done + 1 = n then 0 else g.done + 1) (g.left.set i xl) (g.darts.set i (dd + xd)) (g.inn.set i xi) xl xs xd xi xb xw E1 ls1 wx)
    case first =>
      cases hdn : (g.done + 1 == (n : Int))
      · have hne : ¬ (g.done + 1 = (n : Int)) := by simpa using hdn
        have HNEE := Lib.hid hne
        clear hne
        go_wp2
        go_meet
        exact ⟨rfl, by rw [if_neg HNEE.out, if_neg HNEE.out]; exact HM9.out⟩
      · have hee : g.done + 1 = (n : Int) := by simpa using hdn
        have HEQ := Lib.hid hee
        have hset := (Chg.setCell (S := (· = w.heap.size + 1)) (Chg.refl _ wc) (p := ⟨w.heap.size + 1, 16, none⟩) (.inr rfl) (.int .i64 0)).setCell (p := ⟨w.heap.size + 1, 4, none⟩) (.inr rfl) (.int .i64 (g.round + 1))
        have hb10 := (HB9.out.set 16 (.int .i64 0)).set 4 (.int .i64 (g.round + 1))
        obtain ⟨ea8, ec8, hb8, hce8, hne8, hbl8, hav8⟩ := HM9.out.leg
        have hM11 : MidS w r n (some ⟨cb, co, none⟩) cc i beds ba bc k10 N ea (.slice (some ⟨gl, 0, none⟩) n cl) (.slice (some ⟨gd, 0, none⟩) n cd) (.slice (some ⟨gi, 0, none⟩) n ci) (.slice wa g.winners.length wc') (((i : Int) + 1) % (n : Int)) (g.round + 1) 0 (g.left.set i xl) (g.darts.set i (dd + xd)) (g.inn.set i xi) xl xs xd xi xb xw E1 ls1 ((wc.setCell ⟨w.heap.size + 1, 16, none⟩ (.int .i64 0)).setCell ⟨w.heap.size + 1, 4, none⟩ (.int .i64 (g.round + 1))) :=
          ⟨HM9.out.rul.chg hset (by omega), ⟨ea8, ec8, (hb8.set 16 (.int .i64 0)).set 4 (.int .i64 (g.round + 1)), hce8.chg hset (fun h ad e e2 => (hbl8 h ad e).1 e2), hne8, hbl8, fun ad e => (hav8 ad e).imp id fun h => ⟨h.1, Nat.lt_of_lt_of_le h.2 hset.size⟩⟩, HM9.out.vis.chg hset (by omega), HM9.out.out.chg hset (by omega), HM9.out.thr.chg hset (by omega), HM9.out.left.chg hset (fun j e e2 => by have := own_blk e; omega), HM9.out.darts.chg hset (fun j e e2 => by have := own_blk e; omega), HM9.out.inn.chg hset (fun j e e2 => by have := own_blk e; omega), Chg.to_ext HM9.out.ext hset (fun j e => by omega)⟩
        have HM11 := Lib.hid hM11
        clear hee hset hb10 hb8 hce8 hne8 hbl8 hav8 hM11
        go_wp2
        go_meet
        exact ⟨rfl, by rw [if_pos HEQ.out, if_pos HEQ.out]; exact HM11.out⟩
    case rest =>
      obtain ⟨rfl, hM12⟩ := hcut
      have HM12 := Lib.hid hM12
      obtain ⟨rd2, hrd2⟩ : ∃ rd2, (if g.done + 1 = (n : Int) then g.round + 1 else g.round) = rd2 := ⟨_, rfl⟩
      obtain ⟨dn2, hdn2⟩ : ∃ dn2, (if g.done + 1 = (n : Int) then 0 else g.done + 1) = dn2 := ⟨_, rfl⟩
      rw [hrd2, hdn2] at HM12
      have HRD := Lib.hid hrd2
      have HDN := Lib.hid hdn2
      have hszc := HM12.out.out.lt
      clear hM12 hrd2 hdn2 HM9 HB9 c416 c44 f416 f44 hlt4
      go_wp2
      go_loopw [14, 15] (fun v j wr => ∃ q : Nat, q ≤ n ∧ j = .int .i64 q ∧ OwnI wr wc.heap.size v (upto q) ∧ Ext wc wr) (fun _ j _ => n - (intOf j).toNat)
      case atStart => exact ⟨0, Nat.zero_le _, rfl, own_empty rfl (Nat.le_refl _), (Ext.refl _).alloc _⟩
      case round =>
        obtain ⟨q, hq, rfl, hU, hxu⟩ := hrel
        obtain ⟨ua, uc, rfl, -⟩ := hU.cells
        have hul := upto_length q
        rw [hul]
        rw [hul] at hU
        have HU := Lib.hid hU
        have hszu := hxu.size
        clear hU hul
        by_cases hltq : q < n
        · go_wp2_with (at_builtin; refine wp_append_i rfl _ _ rfl wc.heap.size _ (upto q) rfl (HU.out.ext ((Ext.refl wr).alloc _)) ⟨wr.heap.size, 0, none⟩ 1 q rfl (by simp [go_sem]) (by rw [upto_length]; omega) (by simp; omega) ?_)
          intro v' w4 hO4 hg4
          have hltu := own_lt (HU.out : wr.ownsRow _ _ _ _ _ _)
          have hx4 : Ext wc w4 := Chg.to_ext (hxu.alloc _) (grown_chg hg4) (fun j e => (hltu j e).1)
          rw [← upto_succ] at hO4
          have HO4 := Lib.hid hO4
          have HX4 := Lib.hid hx4
          clear hO4 hg4 hltu hx4
          go_wp2
          go_roundw
          case rel => exact ⟨q + 1, by omega, by go_num, HO4.out, HX4.out⟩
          case measure => simp [intOf]; omega
        · obtain rfl : n = q := by omega
          have hSF := step_fin HRI.out HI.out hov (by rw [HN.out]; exact hi) (by rw [HN.out]; exact hn8) (x := ⟨xl, xs, xd, xi, xb, xw⟩) ⟨⟨hxl0, hxl1⟩, hxd0, hxd1⟩
          rw [HEE.out, HLL.out] at hSF
          obtain ⟨hF, hRI2⟩ := hSF
          have hM13 := HM12.out.later hxu
          have HM13 := Lib.hid hM13
          have HRI2 := Lib.hid hRI2
          obtain ⟨ea3, ec3, hb3, hce3, hne3, hbl3, hav3⟩ := hM13.leg
          have c47 := hb3.cell 7 (v := .slice ea3 E1.length ec3) rfl
          have c40 := hb3.cell 0 (v := .slice (some ⟨gl, 0, none⟩) n cl) rfl
          have c416 := hb3.cell 16 (v := .int .i64 dn2) rfl
          have c44 := hb3.cell 4 (v := .int .i64 rd2) rfl
          have c33 := hM13.rul.cell 3 (v := .bool r.equal) rfl
          have c32 := hM13.rul.cell 2 (v := .int .i64 r.rounds) rfl
          have HB3 := Lib.hid hb3
          have HCE := Lib.hid hce3
          have HNE := Lib.hid hne3
          have HBL := Lib.hid hbl3
          have HEA := Lib.hid hav3
          clear hb3 hce3 hne3 hbl3 hav3 hM13 hRI2 HM12
          have hg1 : (g.put r i ⟨xl, xs, xd, xi, xb, xw⟩).done = dn2 ∧ (g.put r i ⟨xl, xs, xd, xi, xb, xw⟩).round = rd2 ∧ (g.put r i ⟨xl, xs, xd, xi, xb, xw⟩).next = ((i : Int) + 1) % (n : Int) := by
            refine ⟨?_, ?_, ?_⟩
            · rw [← HDN.out]; simp only [Gm.put]; rw [HN.out]
            · rw [← HRD.out]; simp only [Gm.put]; rw [HN.out]
            · simp only [Gm.put]; rw [HN.out]
          have HG1 := Lib.hid hg1
          have hok := HI.out.put (x := ⟨xl, xs, xd, xi, xb, xw⟩) (by rw [HN.out]; exact hi) ⟨⟨hxl0, hxl1⟩, hxd0, hxd1⟩
          have hllen : (g.left.set i xl).length = n := hok.left.trans HN.out
          have hokl := hok.lefts
          have hok1 := hok.left.trans HN.out
          have hok2 := hok.darts.trans HN.out
          have hok3 := hok.inn.trans HN.out
          have HOK := Lib.hid (And.intro hok1 (And.intro hok2 hok3))
          have HLS := Lib.hid hokl
          have HLN := Lib.hid hllen
          have hNN : w.heap.size + 1 + 1 + 1 < N := by omega
          obtain ⟨la1, lc1, hle, hlc⟩ := HM13.out.left.cells
          rw [hllen] at hle
          obtain ⟨rfl, rfl⟩ : some ⟨gl, 0, none⟩ = la1 ∧ cl = lc1 := by injection hle with a1 _ a3; exact ⟨a1, a3⟩
          have HLC := Lib.hid hlc
          have hmem : ∀ x ∈ E1, 0 ≤ x ∧ x < (n : Int) := by rw [← HN.out]; exact HRI2.out.mem
          have HMEM := Lib.hid hmem
          have hshort := HRI2.out.short
          have HSH := Lib.hid hshort
          have hdt := HM13.out.darts
          rw [← HDD.out] at hdt
          have HDT := Lib.hid hdt
          clear hdt
          clear hok hllen hokl hok1 hok2 hok3 hle hlc hmem hshort
          cases hF with
          | first h0 he hf =>
            have hA : 0 < E1.length := h0
            rw [he] at c33
            have HF := Lib.hid hf
            clear hf
            have H0 := Lib.hid h0
            clear h0
            have hf := HF.out
            have hlen5 := HLN.out
            have hov5 := ref_over (.slice (some ⟨gl, 0, none⟩) n cl) (.slice (some ⟨gd, 0, none⟩) n cd) (.slice (some ⟨gi, 0, none⟩) n ci) (((i : Int) + 1) % (n : Int)) rd2 false (.slice wa g.winners.length wc') (.slice ea3 E1.length ec3) (ls1.getD 0 0) (ls1.getD 1 0) (ls1.getD 2 0) (ls1.getD 3 0) (ls1.getD 4 0) (ls1.getD 5 0) (ls1.getD 6 0) (ls1.getD 7 0) dn2 E1 (g.left.set i xl) ea3 (some ⟨gl, 0, none⟩) ec3 cl wr ⟨_, _, _, rfl⟩ ⟨_, _, _, rfl⟩ ⟨_, _, _, rfl⟩ ⟨_, _, _, rfl⟩ ⟨_, _, _, rfl⟩ HCE.out HLC.out ⟨H0.out, by have := HSH.out; omega⟩ (by rw [hlen5]; omega) (fun x hx => by rw [hlen5]; exact HMEM.out x hx) HLS.out
            rw [hlen5] at hov5
            have HOV := Lib.hid hov5
            clear hov5
            go_wp2_with (refine wp_load_leg rfl _ rfl (w.heap.size + 1) rfl _ (HB3.out) rfl ?_)
            refine HOV.out.mono ?_
            rintro e w5 ⟨hx5, wv5, rfl, hO5⟩
            obtain ⟨wa5, wc5, rfl, hw5⟩ := hO5.cells
            have hB5 := (HB3.out).ext hx5
            have hZ5 := (HM13.out.out).ext hx5
            have HW5 := Lib.hid hw5
            have HO5 := Lib.hid hO5
            have hszr := hx5.size
            clear hw5 hO5
            go_wp2_with (first | (refine wp_store_leg rfl _ _ rfl (w.heap.size + 1) rfl _ rfl _ hB5 rfl rfl (by simp [legC, Value.oneCell']) ?_; intro W6 hB6 hC6) | (refine wp_load_leg rfl _ rfl (w.heap.size + 1) rfl _ hB6 rfl ?_) | (refine wp_store_leg rfl _ _ rfl (w.heap.size + 1 + 1 + 1) rfl _ rfl _ (hZ5.chg hC6 (by omega)) rfl rfl (by simp [legC, Value.oneCell']) ?_; intro W7 hB7 hC7))
            have hch : Chg (fun j => j = w.heap.size + 1 ∨ j = w.heap.size + 1 + 1 + 1) w5 W7 := (hC6.mono fun _ _ h => .inl h).trans (hC7.mono fun _ _ h => .inr h)
            have hS2 := HSF.out
            have hR2 := HRI2.out
            rw [hf] at hS2 hR2
            refine bodyPost_ret (v := .tuple #[.agg (legL (.slice (some ⟨gl, 0, none⟩) n cl) (.slice (some ⟨gd, 0, none⟩) n cd) (.slice (some ⟨gi, 0, none⟩) n ci) (-1) rd2 true (.slice wa5 (winS n (pickF E1 (g.left.set i xl))).length wc5) (.slice ea3 E1.length ec3) ls1 dn2), .int .i64 0, .int .i64 0]) (results_leg3 rfl rfl hB7 rfl rfl rfl) rfl ?_
            have hxx := Chg.to_ext (((HM13.out.ext)).trans hx5) hch (by rintro j (h | h) <;> omega)
            have hs1 := HM13.out.ext.size
            have hs2 := hch.size
            have hoi : ∀ {N' : Nat} {v : Value} {l : List Int}, OwnI w5 N' v l → w.heap.size + 1 + 1 + 1 < N' → OwnI W7 N' v l := fun h h' => h.chg hch (fun j e e2 => by have := h.from j e; omega)
            have hEE : CellsAt W7 .i64 ea3 E1 := ((HCE.out).ext hx5).chg hch (fun h ad e e2 => by have := HBL.out h ad e; omega)
            have hWW := (hoi HO5.out (by omega)).cells
            refine stp_fin (N := N) hS2 hxx (n := n) (by omega) HOK.out.1 HOK.out.2.1 HOK.out.2.2 (hoi ((HM13.out.left).ext hx5) hNN) (hoi ((HDT.out).ext hx5) hNN) (((HM13.out.inn).ext hx5).chg hch (fun j e e2 => by have := own_blk e; omega)) (by omega) ?_ hEE HNE.out hR2 rfl HG1.out.2.1 rfl HG1.out.1 (fun b hb hbb a n c e => by have := own_lt HO5.out a.block (by rw [e]; rfl); omega) (fun b hb hbb a e => by rcases HEA.out a e with h | h; exact (HAV.out b hb).2 a h; omega)
            show ∃ a c, _ = Value.slice a (winS r.counts.length (pickF E1 (g.left.set i xl))).length c ∧ CellsAt W7 .i64 a (winS r.counts.length (pickF E1 (g.left.set i xl)))
            rw [HN.out]
            obtain ⟨a7, c7, e7, h7⟩ := hWW
            exact ⟨a7, c7, e7, h7⟩
          | round h0 he hd hf =>
            have hA : decide ((0 : Int) < (E1.length : Int)) = true := decide_eq_true (by omega)
            have hD : (dn2 == 0) = true := by rw [← HG1.out.1, hd]; rfl
            rw [he] at c33
            have HF := Lib.hid hf
            clear hf hd
            have H0 := Lib.hid h0
            clear h0
            obtain ⟨wz, rfl⟩ : ∃ x, x = wr := ⟨_, rfl⟩
            go_wp2
            go_loopw [16, 17] (fun v j wr => ∃ q : Nat, q ≤ n ∧ j = .int .i64 q ∧ OwnI wr wz.heap.size v (lastN q ls1) ∧ Ext wz wr) (fun _ j _ => n - (intOf j).toNat)
            case atStart => exact ⟨0, Nat.zero_le _, rfl, own_empty rfl (Nat.le_refl _), (Ext.refl _).alloc _⟩
            case round =>
              obtain ⟨q, hq, rfl, hU2, hx7⟩ := hrel
              obtain ⟨va, vc, rfl, hvc⟩ := hU2.cells
              have hul := lastN_length q ls1
              rw [hul]
              rw [hul] at hU2
              have HU2 := Lib.hid hU2
              have HVC := Lib.hid hvc
              have hsz7 := hx7.size
              clear hU2 hul hvc
              by_cases hltq : q < n
              · have p8 := (HB3.out.ext hx7).cell (8 + q) (legL_last _ _ _ _ _ _ _ _ _ _ (p := q) (by omega))
                obtain ⟨lq, hlq⟩ : ∃ lq, ls1.getD q 0 = lq := ⟨_, rfl⟩
                rw [hlq] at p8
                have HLQ := Lib.hid hlq
                clear hlq
                go_wp2_with (at_builtin; refine wp_append_i rfl _ _ rfl wz.heap.size _ (lastN q ls1) rfl (HU2.out.ext ((Ext.refl wr).alloc _)) ⟨wr.heap.size, 0, none⟩ 1 lq rfl (by simp [go_sem]) (by rw [lastN_length]; omega) (by simp; omega) ?_)
                intro v' w4 hO4 hg4
                have hltu := own_lt (HU2.out : wr.ownsRow _ _ _ _ _ _)
                have hx4 : Ext wz w4 := Chg.to_ext (hx7.alloc _) (grown_chg hg4) (fun j e => (hltu j e).1)
                rw [← HLQ.out, ← lastN_succ] at hO4
                have HO4 := Lib.hid hO4
                have HX4 := Lib.hid hx4
                clear hO4 hg4 hltu hx4 p8
                go_wp2
                go_roundw
                case rel => exact ⟨q + 1, by omega, by go_num, HO4.out, HX4.out⟩
                case measure => simp [intOf]; omega
              · obtain rfl : n = q := by omega
                have c47 := (HB3.out.ext hx7).cell 7 (v := .slice ea3 E1.length ec3) rfl
                have hf := HF.out
                have hlen5 := lastN_length n ls1
                have hov5 := ref_over (.slice (some ⟨gl, 0, none⟩) n cl) (.slice (some ⟨gd, 0, none⟩) n cd) (.slice (some ⟨gi, 0, none⟩) n ci) (((i : Int) + 1) % (n : Int)) rd2 false (.slice wa g.winners.length wc') (.slice ea3 E1.length ec3) (ls1.getD 0 0) (ls1.getD 1 0) (ls1.getD 2 0) (ls1.getD 3 0) (ls1.getD 4 0) (ls1.getD 5 0) (ls1.getD 6 0) (ls1.getD 7 0) dn2 E1 (lastN n ls1) ea3 va ec3 vc wr ⟨_, _, _, rfl⟩ ⟨_, _, _, rfl⟩ ⟨_, _, _, rfl⟩ ⟨_, _, _, rfl⟩ ⟨_, _, _, rfl⟩ (HCE.out.ext hx7) HVC.out ⟨H0.out, by have := HSH.out; omega⟩ (by rw [hlen5]; omega) (fun x hx => by rw [hlen5]; exact HMEM.out x hx) (fun x hx => by simp only [lastN, List.mem_map] at hx; obtain ⟨y, -, rfl⟩ := hx; rw [List.getD_eq_getElem?_getD]; cases hq2 : ls1[y]? with | none => simp | some z => have := HRI2.out.lasts z (List.mem_of_getElem? hq2); simp; omega)
                rw [hlen5] at hov5
                have HOV := Lib.hid hov5
                clear hov5
                go_wp2_with (refine wp_load_leg rfl _ rfl (w.heap.size + 1) rfl _ (HB3.out.ext hx7) rfl ?_)
                refine HOV.out.mono ?_
                rintro e w5 ⟨hx5, wv5, rfl, hO5⟩
                obtain ⟨wa5, wc5, rfl, hw5⟩ := hO5.cells
                have hB5 := (HB3.out.ext hx7).ext hx5
                have hZ5 := (HM13.out.out.ext hx7).ext hx5
                have HW5 := Lib.hid hw5
                have HO5 := Lib.hid hO5
                have hszr := hx5.size
                clear hw5 hO5
                go_wp2_with (first | (refine wp_store_leg rfl _ _ rfl (w.heap.size + 1) rfl _ rfl _ hB5 rfl rfl (by simp [legC, Value.oneCell']) ?_; intro W6 hB6 hC6) | (refine wp_load_leg rfl _ rfl (w.heap.size + 1) rfl _ hB6 rfl ?_) | (refine wp_store_leg rfl _ _ rfl (w.heap.size + 1 + 1 + 1) rfl _ rfl _ (hZ5.chg hC6 (by omega)) rfl rfl (by simp [legC, Value.oneCell']) ?_; intro W7 hB7 hC7))
                have hch : Chg (fun j => j = w.heap.size + 1 ∨ j = w.heap.size + 1 + 1 + 1) w5 W7 := (hC6.mono fun _ _ h => .inl h).trans (hC7.mono fun _ _ h => .inr h)
                have hS2 := HSF.out
                have hR2 := HRI2.out
                rw [hf] at hS2 hR2
                refine bodyPost_ret (v := .tuple #[.agg (legL (.slice (some ⟨gl, 0, none⟩) n cl) (.slice (some ⟨gd, 0, none⟩) n cd) (.slice (some ⟨gi, 0, none⟩) n ci) (-1) rd2 true (.slice wa5 (winS n (pickF E1 (lastN n ls1))).length wc5) (.slice ea3 E1.length ec3) ls1 dn2), .int .i64 0, .int .i64 0]) (results_leg3 rfl rfl hB7 rfl rfl rfl) rfl ?_
                have hxx := Chg.to_ext (((HM13.out.ext).trans hx7).trans hx5) hch (by rintro j (h | h) <;> omega)
                have hs1 := HM13.out.ext.size
                have hs2 := hch.size
                have hoi : ∀ {N' : Nat} {v : Value} {l : List Int}, OwnI w5 N' v l → w.heap.size + 1 + 1 + 1 < N' → OwnI W7 N' v l := fun h h' => h.chg hch (fun j e e2 => by have := h.from j e; omega)
                have hEE : CellsAt W7 .i64 ea3 E1 := ((HCE.out.ext hx7).ext hx5).chg hch (fun h ad e e2 => by have := HBL.out h ad e; omega)
                have hWW := (hoi HO5.out (by omega)).cells
                refine stp_fin (N := N) hS2 hxx (n := n) (by omega) HOK.out.1 HOK.out.2.1 HOK.out.2.2 (hoi ((HM13.out.left.ext hx7).ext hx5) hNN) (hoi ((HDT.out.ext hx7).ext hx5) hNN) (((HM13.out.inn.ext hx7).ext hx5).chg hch (fun j e e2 => by have := own_blk e; omega)) (by omega) ?_ hEE HNE.out hR2 rfl HG1.out.2.1 rfl HG1.out.1 (fun b hb hbb a n c e => by have := own_lt HO5.out a.block (by rw [e]; rfl); omega) (fun b hb hbb a e => by rcases HEA.out a e with h | h; exact (HAV.out b hb).2 a h; omega)
                show ∃ a c, _ = Value.slice a (winS r.counts.length (pickF E1 (lastN r.counts.length ls1))).length c ∧ CellsAt W7 .i64 a (winS r.counts.length (pickF E1 (lastN r.counts.length ls1)))
                rw [HN.out]
                obtain ⟨a7, c7, e7, h7⟩ := hWW
                exact ⟨a7, c7, e7, h7⟩
          | last h0 hd hr hf =>
            have hA : ¬ 0 < E1.length := by omega
            have hD : (dn2 == 0) = true := by rw [← HG1.out.1, hd]; rfl
            have hRR : (rd2 == r.rounds) = true := by rw [← HG1.out.2.1, hr]; simp
            have HF := Lib.hid hf
            clear hf hd hr h0
            have hf := HF.out
            have hlen5 := HLN.out
            have hlen6 := upto_length n
            obtain ⟨ua2, uc2, hue, huc⟩ := HU.out.cells
            rw [hlen6] at hue
            obtain ⟨rfl, rfl⟩ : ua = ua2 ∧ uc = uc2 := by injection hue with a1 _ a3; exact ⟨a1, a3⟩
            clear hue
            have hov5 := ref_over (.slice (some ⟨gl, 0, none⟩) n cl) (.slice (some ⟨gd, 0, none⟩) n cd) (.slice (some ⟨gi, 0, none⟩) n ci) (((i : Int) + 1) % (n : Int)) rd2 false (.slice wa g.winners.length wc') (.slice ea3 E1.length ec3) (ls1.getD 0 0) (ls1.getD 1 0) (ls1.getD 2 0) (ls1.getD 3 0) (ls1.getD 4 0) (ls1.getD 5 0) (ls1.getD 6 0) (ls1.getD 7 0) dn2 (upto n) (g.left.set i xl) ua (some ⟨gl, 0, none⟩) uc cl wr ⟨_, _, _, rfl⟩ ⟨_, _, _, rfl⟩ ⟨_, _, _, rfl⟩ ⟨_, _, _, rfl⟩ ⟨_, _, _, rfl⟩ huc HLC.out (by rw [hlen6]; omega) (by rw [hlen5]; omega) (fun x hx => by rw [hlen5]; exact (fun x hx => by simp only [upto, List.mem_map, List.mem_range] at hx; obtain ⟨y, hy, rfl⟩ := hx; omega : ∀ x ∈ upto n, 0 ≤ x ∧ x < (n : Int)) x hx) HLS.out
            rw [hlen5] at hov5
            rw [hlen6] at hov5
            have HOV := Lib.hid hov5
            clear hov5
            go_wp2_with (refine wp_load_leg rfl _ rfl (w.heap.size + 1) rfl _ (HB3.out) rfl ?_)
            refine HOV.out.mono ?_
            rintro e w5 ⟨hx5, wv5, rfl, hO5⟩
            obtain ⟨wa5, wc5, rfl, hw5⟩ := hO5.cells
            have hB5 := (HB3.out).ext hx5
            have hZ5 := (HM13.out.out).ext hx5
            have HW5 := Lib.hid hw5
            have HO5 := Lib.hid hO5
            have hszr := hx5.size
            clear hw5 hO5
            go_wp2_with (first | (refine wp_store_leg rfl _ _ rfl (w.heap.size + 1) rfl _ rfl _ hB5 rfl rfl (by simp [legC, Value.oneCell']) ?_; intro W6 hB6 hC6) | (refine wp_load_leg rfl _ rfl (w.heap.size + 1) rfl _ hB6 rfl ?_) | (refine wp_store_leg rfl _ _ rfl (w.heap.size + 1 + 1 + 1) rfl _ rfl _ (hZ5.chg hC6 (by omega)) rfl rfl (by simp [legC, Value.oneCell']) ?_; intro W7 hB7 hC7))
            have hch : Chg (fun j => j = w.heap.size + 1 ∨ j = w.heap.size + 1 + 1 + 1) w5 W7 := (hC6.mono fun _ _ h => .inl h).trans (hC7.mono fun _ _ h => .inr h)
            have hS2 := HSF.out
            have hR2 := HRI2.out
            rw [hf] at hS2 hR2
            refine bodyPost_ret (v := .tuple #[.agg (legL (.slice (some ⟨gl, 0, none⟩) n cl) (.slice (some ⟨gd, 0, none⟩) n cd) (.slice (some ⟨gi, 0, none⟩) n ci) (-1) rd2 true (.slice wa5 (winS n (pickF (upto n) (g.left.set i xl))).length wc5) (.slice ea3 E1.length ec3) ls1 dn2), .int .i64 0, .int .i64 0]) (results_leg3 rfl rfl hB7 rfl rfl rfl) rfl ?_
            have hxx := Chg.to_ext (((HM13.out.ext)).trans hx5) hch (by rintro j (h | h) <;> omega)
            have hs1 := HM13.out.ext.size
            have hs2 := hch.size
            have hoi : ∀ {N' : Nat} {v : Value} {l : List Int}, OwnI w5 N' v l → w.heap.size + 1 + 1 + 1 < N' → OwnI W7 N' v l := fun h h' => h.chg hch (fun j e e2 => by have := h.from j e; omega)
            have hEE : CellsAt W7 .i64 ea3 E1 := ((HCE.out).ext hx5).chg hch (fun h ad e e2 => by have := HBL.out h ad e; omega)
            have hWW := (hoi HO5.out (by omega)).cells
            refine stp_fin (N := N) hS2 hxx (n := n) (by omega) HOK.out.1 HOK.out.2.1 HOK.out.2.2 (hoi ((HM13.out.left).ext hx5) hNN) (hoi ((HDT.out).ext hx5) hNN) (((HM13.out.inn).ext hx5).chg hch (fun j e e2 => by have := own_blk e; omega)) (by omega) ?_ hEE HNE.out hR2 rfl HG1.out.2.1 rfl HG1.out.1 (fun b hb hbb a n c e => by have := own_lt HO5.out a.block (by rw [e]; rfl); omega) (fun b hb hbb a e => by rcases HEA.out a e with h | h; exact (HAV.out b hb).2 a h; omega)
            show ∃ a c, _ = Value.slice a (winS r.counts.length (pickF (upto r.counts.length) (g.left.set i xl))).length c ∧ CellsAt W7 .i64 a (winS r.counts.length (pickF (upto r.counts.length) (g.left.set i xl)))
            rw [HN.out]
            obtain ⟨a7, c7, e7, h7⟩ := hWW
            exact ⟨a7, c7, e7, h7⟩
          | on h0 hd hf =>
            have HF := Lib.hid hf
            clear hf
            by_cases hA : 0 < E1.length
            · have h1 : r.equal = true ∧ dn2 ≠ 0 := by
                rcases h0 with h0 | h0
                · omega
                · rw [HG1.out.1] at h0; exact h0
              have hD : (dn2 == 0) = false := by simpa using h1.2
              rw [h1.1] at c33
              clear h0 hd h1
              obtain ⟨cs1, hcs1⟩ : ∃ cs1, legL (.slice (some ⟨gl, 0, none⟩) n cl) (.slice (some ⟨gd, 0, none⟩) n cd) (.slice (some ⟨gi, 0, none⟩) n ci) (((i : Int) + 1) % (n : Int)) rd2 false (.slice wa g.winners.length wc') (.slice ea3 E1.length ec3) ls1 dn2 = cs1 := ⟨_, rfl⟩
              have hB1 := HB3.out
              rw [hcs1] at hB1
              have hsz1 : cs1.size = 17 := by rw [← hcs1]; rfl
              have hone1 : cs1.all (·.oneCell') = true := by rw [← hcs1]; exact legL_one ..
              have HCS1 := Lib.hid hcs1
              have HB1 := Lib.hid hB1
              have HSZ1 := Lib.hid hsz1
              have HONE1 := Lib.hid hone1
              have HZ5 := Lib.hid HM13.out.out
              clear hcs1 hB1 hsz1 hone1
              go_upto_region 38 with fail
              go_wp2_with (refine wp_load_leg rfl _ rfl (w.heap.size + 1) rfl _ HB1.out HSZ1.out ?_; refine wp_store_leg rfl _ _ rfl (w.heap.size + 1 + 1 + 1) rfl _ rfl _ HZ5.out rfl HSZ1.out HONE1.out ?_; intro W7 hB7 hC7)
              have hf := HF.out
              have hS2 := HSF.out
              have hR2 := HRI2.out
              rw [hf] at hS2 hR2
              refine bodyPost_ret (v := .tuple #[.agg cs1, .int .i64 0, .int .i64 0]) (results_leg3 rfl rfl hB7 HSZ1.out rfl rfl) rfl ?_
              rw [← HCS1.out]
              have hs1 := HM13.out.ext.size
              have hs2 := hC7.size
              have hxx := Chg.to_ext HM13.out.ext hC7 (by rintro j h; omega)
              refine stp_fin (N := N) hS2 hxx (n := n) (by omega) HOK.out.1 HOK.out.2.1 HOK.out.2.2 (HM13.out.left.chg hC7 (fun j e e2 => by have := own_blk e; omega)) (HDT.out.chg hC7 (fun j e e2 => by have := own_blk e; omega)) (HM13.out.inn.chg hC7 (fun j e e2 => by have := own_blk e; omega)) (by omega) ⟨wa, wc', rfl, HRC.out.win.ext hxx⟩ (HCE.out.chg hC7 (fun h ad e e2 => (HBL.out h ad e).2 e2)) HNE.out hR2 HG1.out.2.2 HG1.out.2.1 hov HG1.out.1 (fun b hb hbb a n c e => by injection e with e; exact (HAV.out b hb).1 a e) (fun b hb hbb a e => by rcases HEA.out a e with h | h; exact (HAV.out b hb).2 a h; omega)
            · cases hD : (dn2 == 0)
              · clear h0 hd
                obtain ⟨cs1, hcs1⟩ : ∃ cs1, legL (.slice (some ⟨gl, 0, none⟩) n cl) (.slice (some ⟨gd, 0, none⟩) n cd) (.slice (some ⟨gi, 0, none⟩) n ci) (((i : Int) + 1) % (n : Int)) rd2 false (.slice wa g.winners.length wc') (.slice ea3 E1.length ec3) ls1 dn2 = cs1 := ⟨_, rfl⟩
                have hB1 := HB3.out
                rw [hcs1] at hB1
                have hsz1 : cs1.size = 17 := by rw [← hcs1]; rfl
                have hone1 : cs1.all (·.oneCell') = true := by rw [← hcs1]; exact legL_one ..
                have HCS1 := Lib.hid hcs1
                have HB1 := Lib.hid hB1
                have HSZ1 := Lib.hid hsz1
                have HONE1 := Lib.hid hone1
                have HZ5 := Lib.hid HM13.out.out
                clear hcs1 hB1 hsz1 hone1
                go_upto_region 38 with fail
                go_wp2_with (refine wp_load_leg rfl _ rfl (w.heap.size + 1) rfl _ HB1.out HSZ1.out ?_; refine wp_store_leg rfl _ _ rfl (w.heap.size + 1 + 1 + 1) rfl _ rfl _ HZ5.out rfl HSZ1.out HONE1.out ?_; intro W7 hB7 hC7)
                have hf := HF.out
                have hS2 := HSF.out
                have hR2 := HRI2.out
                rw [hf] at hS2 hR2
                refine bodyPost_ret (v := .tuple #[.agg cs1, .int .i64 0, .int .i64 0]) (results_leg3 rfl rfl hB7 HSZ1.out rfl rfl) rfl ?_
                rw [← HCS1.out]
                have hs1 := HM13.out.ext.size
                have hs2 := hC7.size
                have hxx := Chg.to_ext HM13.out.ext hC7 (by rintro j h; omega)
                refine stp_fin (N := N) hS2 hxx (n := n) (by omega) HOK.out.1 HOK.out.2.1 HOK.out.2.2 (HM13.out.left.chg hC7 (fun j e e2 => by have := own_blk e; omega)) (HDT.out.chg hC7 (fun j e e2 => by have := own_blk e; omega)) (HM13.out.inn.chg hC7 (fun j e e2 => by have := own_blk e; omega)) (by omega) ⟨wa, wc', rfl, HRC.out.win.ext hxx⟩ (HCE.out.chg hC7 (fun h ad e e2 => (HBL.out h ad e).2 e2)) HNE.out hR2 HG1.out.2.2 HG1.out.2.1 hov HG1.out.1 (fun b hb hbb a n c e => by injection e with e; exact (HAV.out b hb).1 a e) (fun b hb hbb a e => by rcases HEA.out a e with h | h; exact (HAV.out b hb).2 a h; omega)
              · have hRR : (rd2 == r.rounds) = false := by
                  rcases hd with hd | hd
                  · rw [HG1.out.1] at hd; simp at hD; exact absurd hD hd
                  · rw [HG1.out.2.1] at hd; simpa using hd
                clear h0 hd
                obtain ⟨cs1, hcs1⟩ : ∃ cs1, legL (.slice (some ⟨gl, 0, none⟩) n cl) (.slice (some ⟨gd, 0, none⟩) n cd) (.slice (some ⟨gi, 0, none⟩) n ci) (((i : Int) + 1) % (n : Int)) rd2 false (.slice wa g.winners.length wc') (.slice ea3 E1.length ec3) ls1 dn2 = cs1 := ⟨_, rfl⟩
                have hB1 := HB3.out
                rw [hcs1] at hB1
                have hsz1 : cs1.size = 17 := by rw [← hcs1]; rfl
                have hone1 : cs1.all (·.oneCell') = true := by rw [← hcs1]; exact legL_one ..
                have HCS1 := Lib.hid hcs1
                have HB1 := Lib.hid hB1
                have HSZ1 := Lib.hid hsz1
                have HONE1 := Lib.hid hone1
                have HZ5 := Lib.hid HM13.out.out
                clear hcs1 hB1 hsz1 hone1
                go_upto_region 38 with fail
                go_wp2_with (refine wp_load_leg rfl _ rfl (w.heap.size + 1) rfl _ HB1.out HSZ1.out ?_; refine wp_store_leg rfl _ _ rfl (w.heap.size + 1 + 1 + 1) rfl _ rfl _ HZ5.out rfl HSZ1.out HONE1.out ?_; intro W7 hB7 hC7)
                have hf := HF.out
                have hS2 := HSF.out
                have hR2 := HRI2.out
                rw [hf] at hS2 hR2
                refine bodyPost_ret (v := .tuple #[.agg cs1, .int .i64 0, .int .i64 0]) (results_leg3 rfl rfl hB7 HSZ1.out rfl rfl) rfl ?_
                rw [← HCS1.out]
                have hs1 := HM13.out.ext.size
                have hs2 := hC7.size
                have hxx := Chg.to_ext HM13.out.ext hC7 (by rintro j h; omega)
                refine stp_fin (N := N) hS2 hxx (n := n) (by omega) HOK.out.1 HOK.out.2.1 HOK.out.2.2 (HM13.out.left.chg hC7 (fun j e e2 => by have := own_blk e; omega)) (HDT.out.chg hC7 (fun j e e2 => by have := own_blk e; omega)) (HM13.out.inn.chg hC7 (fun j e e2 => by have := own_blk e; omega)) (by omega) ⟨wa, wc', rfl, HRC.out.win.ext hxx⟩ (HCE.out.chg hC7 (fun h ad e e2 => (HBL.out h ad e).2 e2)) HNE.out hR2 HG1.out.2.2 HG1.out.2.1 hov HG1.out.1 (fun b hb hbb a n c e => by injection e with e; exact (HAV.out b hb).1 a e) (fun b hb hbb a e => by rcases HEA.out a e with h | h; exact (HAV.out b hb).2 a h; omega)
end Go.Proofs.Ytocnglplhnhllaa
