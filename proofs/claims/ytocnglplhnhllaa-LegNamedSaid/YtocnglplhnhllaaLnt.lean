/-
  The statement LegNamed: what it does behind its switch.
-/
import Derived.Test.YtocnglplhnhllaaSeo
import Derived.Test.YtocnglplhnhllaaKep
import Derived.Test.YtocnglplhnhllaaKno
import Derived.Test.YtocnglplhnhllaaNam
import Derived.Deep.DeepCutAuto
namespace Go.Proofs.Ytocnglplhnhllaa
open Go.RowKit Go.BigFrame
attribute [local go_sem] Later.cell Later.frozen Lat.cell Lat.frozen
set_option maxRecDepth 100000 in
set_option maxHeartbeats 16000000 in
theorem named_tail (c : Code) (hc : codeFrom 22 (Try.f9.body.getD .skip) = some c) (r : Rul) (l : List LV) (g : Gm) (k4 k5 k7 i B n c0 b o c1 : Nat) (want dart gr : Int) (ov : Bool) (bad : LV) (bv v1 v2 v3 v4 v5 : Value) (a1 : Option Addr) (w w3 : World)
    (HB4 : Hid (Blk w3 k4 #[.slice a1 r.counts.length c1, .int .i64 r.first, .int .i64 r.rounds, .bool r.equal])) (HB5 : Hid (Blk w3 k5 #[.slice (some ⟨b, o, none⟩) n c0, v1, v2, v3, v4, v5, .int .i64 gr, .bool ov])) (HCr : Hid (CntsAt w3 a1 r.counts)) (HCn : Hid (a1 = none → r.counts.length = 0 ∧ c1 = 0)) (HV : Hid (VisIn w3 (some ⟨b, o, none⟩) l)) (HLEN : Hid (n = l.length)) (hn60 : n ≤ 60) (hcap : n ≤ c0) (hi : i ≤ n)
    (HBad : Hid (BadV r l g i bad want dart)) (HPL : Hid (playL r (.begin r) 0 l = (g, 0, 0))) (HFS : Hid (∀ v ∈ l, v.fits ∧ v.beds.length ≤ 3)) (HOK : Hid (r.ok = true)) (hn1 : 1 ≤ r.counts.length) (hn8 : r.counts.length ≤ 8) (HOV : Hid (ov = g.over)) (HGL : Hid (g.left.length = r.counts.length))
    (HS : Hid (Frm B [Res.own B 34 1 bv bad.beds.length (bad.beds.map (Value.int .i64)), Res.blk k7 #[.int .i64 bad.player, bv]] w3)) (hB : B ≤ w3.heap.size) (HX : Hid (Ext w w3)) {s0 s1 s2 s3 s4 s5 s6 s10 s14 s15 s16 s17 s18 s19 s20 s21 s22 s23 s24 s25 s26 s27 s28 s29 s30 s31 s32 s33 s34 s35 s36 s37 s38 s39 s40 s41 s42 s43 s44 s45 s46 s47 s48 s49 s50 s51 s52 s53 s54 s55 s56 s57 s58 s59 s60 s61 s62 s63 s64 s65 s66 s67 s68 s69 s70 s71 s72 s73 s74 s75 s76 s77 s78 s79 s80 s81 s82 s83 s84 s85 s86 s87 s88 s89 s90 s91 s92 s93 s94 s95 s96 s97 s98 s99 s100 s101 s102 s103 s104 s105 s106 s107 s108 s109 s110 s111 s112 s113 s114 s115 s116 s117 s118 s119 s120 s121 s122 s123 s124 s125 s126 s127 s128 s129 s130 s131 s132 s133 s134 s135 s136 s137 s138 s139 s140 s141 s142 s143 s144 s145 s146 s147 s148 s149 s150 s151 s152 s153 s154 s155 s156 s157 s158 s159 s160 s161 s162 s163 s164 s165 s166 s167 s168 s169 s170 s171 s172 s173 s174 s175 s176 s177 s178 s179 s180 s181 s182 s183 s184 s185 s186 s187 s188 s189 s190 s191 s192 s193 s194 s195 s196 s197 s198 s199 s200 s201 s202 s203 s204 s205 s206 s207 s208 s209 s210 s211 s212 s213 s214 s215 s216 s217 s218 s219 s220 s221 s222 s223 s224 s225 s226 s227 s228 s229 s230 s231 s232 s233 s234 s235 s236 s237 s238 s239 s240 s241 s242 s243 s244 s245 s246 s247 s248 s249 s250 s251 s252 s253 s254 s255 : Value} :
    c.wp Try.prog (bodyPost Try.prog Try.f9 fun e w' => e = .returned (.bool true) ∧ Ext w w') { tmps := #[s0, s1, s2, s3, s4, s5, s6, .pointer (some ⟨k4, 0, none⟩), .pointer (some ⟨k5, 0, none⟩), .int .i64 i, s10, .pointer (some ⟨k7, 0, none⟩), .int .i64 want, .int .i64 dart, s14, s15, s16, s17, s18, s19, s20, s21, s22, s23, s24, s25, s26, s27, s28, s29, s30, s31, s32, s33, s34, s35, s36, s37, s38, s39, s40, s41, s42, s43, s44, s45, s46, s47, s48, s49, s50, s51, s52, s53, s54, s55, s56, s57, s58, s59, s60, s61, s62, s63, s64, s65, s66, s67, s68, s69, s70, s71, s72, s73, s74, s75, s76, s77, s78, s79, s80, s81, s82, s83, s84, s85, s86, s87, s88, s89, s90, s91, s92, s93, s94, s95, s96, s97, s98, s99, s100, s101, s102, s103, s104, s105, s106, s107, s108, s109, s110, s111, s112, s113, s114, s115, s116, s117, s118, s119, s120, s121, s122, s123, s124, s125, s126, s127, s128, s129, s130, s131, s132, s133, s134, s135, s136, s137, s138, s139, s140, s141, s142, s143, s144, s145, s146, s147, s148, s149, s150, s151, s152, s153, s154, s155, s156, s157, s158, s159, s160, s161, s162, s163, s164, s165, s166, s167, s168, s169, s170, s171, s172, s173, s174, s175, s176, s177, s178, s179, s180, s181, s182, s183, s184, s185, s186, s187, s188, s189, s190, s191, s192, s193, s194, s195, s196, s197, s198, s199, s200, s201, s202, s203, s204, s205, s206, s207, s208, s209, s210, s211, s212, s213, s214, s215, s216, s217, s218, s219, s220, s221, s222, s223, s224, s225, s226, s227, s228, s229, s230, s231, s232, s233, s234, s235, s236, s237, s238, s239, s240, s241, s242, s243, s244, s245, s246, s247, s248, s249, s250, s251, s252, s253, s254, s255], defers := [] } w3 := by
  let Q2 : Exit → Act → World → Prop := bodyPost Try.prog Try.f9 fun _ _ => True
  simp only [Try.f9, Option.getD_some, codeFrom, ↓reduceIte, Nat.reduceEqDiff, Option.some.injEq] at hc
  subst hc
  obtain ⟨ba, bc, rfl⟩ := own_shape (HS.out.get 0 rfl)
  obtain ⟨bp, bbs⟩ := bad
  have hbb : bbs.length ≤ 10 := HBad.out.fits.2
  obtain ⟨lt, hlt⟩ : ∃ lt, l.take i = lt := ⟨_, rfl⟩
  have hltl : lt.length = i := by rw [← hlt, List.length_take, ← HLEN.out]; omega
  have hlb : ∀ v ∈ l, v.beds.length ≤ 1000000 := fun v hv => by have := (HFS.out v hv).2; omega
  have hvt := fun W (hx : Ext w3 W) => law_visits lt (some ⟨b, o, none⟩) c0 W (by rw [← hlt]; exact (HV.out.ext hx).take i) (by omega) (fun v hv => hlb v (List.mem_of_mem_take (by rw [hlt]; exact hv)))
  rw [hltl] at hvt
  have HVT := Lib.hid hvt
  have HLT := Lib.hid hlt
  have HLTL := Lib.hid hltl
  have hb7 : Blk w3 k7 #[.int .i64 bp, .slice ba bbs.length bc] := HS.out.get 1 rfl
  have e0 := hb7.cell 0 (v := .int .i64 bp) rfl
  have e1 := hb7.cell 1 (v := .slice ba bbs.length bc) rfl
  have hl7 := hb7.lt
  have d0 := HB5.out.cell 0 (v := .slice (some ⟨b, o, none⟩) n c0) rfl
  have hl5 := HB5.out.lt
  obtain ⟨N, hN⟩ : ∃ N, N = w3.heap.size := ⟨_, rfl⟩
  have n7 : ¬ (N ≤ k7) := by omega
  have n5 : ¬ (N ≤ k5) := by omega
  have hlo : N ≤ w3.heap.size := by omega
  have hlo2 : w3.heap.size ≤ N := by omega
  have hic : i ≤ c0 := by omega
  have hN2 : w3.heap.size ≤ N := by omega
  clear hb7 hvt hlt hltl hN
  go_upto_region 22 with fail
  refine wp_region_calls (by kernel_rfl) [.no, .no, .no, .no, .slc i, .no, .box 1, .slc (i + 1)] N (fun _ => 0)
    (fun (us : List Value) L u => [bif L 7 then Res.visP N (u 7) lt us bp (.slice ba bbs.length bc) else (bif L 4 then Res.vis N (u 4) lt us else Res.none), bif L 6 then Res.own N 84 2 (u 6) 1 [.int .i64 bp, .slice ba bbs.length bc] else Res.none])
    [] (by kernel_rfl) (Nat.le_of_ble_eq_true rfl) (fun c L L' u hh => by simp only [hh 7 rfl, hh 4 rfl, hh 6 rfl]) (Nat.zero_le _) (fun _ => Frm.nones _ 2 w3) ?_
  intro T hT hne u hu
  obtain ⟨a4, c4, u4⟩ : ∃ a c, u 4 = .slice a i c := hu 4 rfl
  obtain ⟨k6, u6⟩ : ∃ k, u 6 = .slice (some ⟨k, 0, none⟩) 1 1 := hu 6 rfl
  obtain ⟨a7, c7, u7⟩ : ∃ a c, u 7 = .slice a (i + 1) c := hu 7 rfl
  clear hu
  refine lx_next 4 (by rfl) (by decide) ?_
  dsimp only [List.take, List.drop]
  repeat (go_big_quiet_step (fail))
  refine wpQuiet_nil ?_
  refine lx_loud (by rfl) (by kernel_rfl) ?_ (fun K hK => ?_)
  · intro L w3 hL hd hcl hC hs
    obtain ⟨x, rfl⟩ := hC
    obtain ⟨c, hmc, hs⟩ := hs
    have hzs := x.size
    have h7 := hcl.off hL 40 7 (by kernel_rfl)
    simp only [hL, h7, cond_false] at hs
    have hX : Ext w3 x.world := Chg.to_ext (Ext.refl w3) x.chg (by rintro i ⟨_, h⟩; have h : N ≤ i := h; omega)
    go_wp2_with fail
    refine (HVT.out _ hX).mono ?_
    rintro e w' ⟨v, us, rfl, hO, hx⟩
    obtain ⟨va, vc, rfl⟩ := own_shape hO.outer
    rw [HLTL.out]
    have hO2 : VisO w' N (.slice va i vc) lt us := by have := hO.mono (base' := N) (by omega); rw [HLTL.out] at this; exact this
    have HO2 := Lib.hid hO2
    have HB_ := Lib.hid (own_lt (HLTL.out ▸ hO.outer))
    have HL_ := Lib.hid hO.lts
    clear hO2 hO
    go_wp2
    exact lik_set x hlo ⟨_, _, rfl⟩ hs 0 (r' := Res.vis N (.slice va i vc) lt us) rfl (hx.chg _) HO2.out (fun k hk => .inr (by rcases hk with hk | ⟨u, hu, hk⟩; exact HB_.out k hk; exact HL_.out u hu k hk)) us (Nat.zero_le _) (by first | (simp [upd, updv, h7, hL]; done) | (simp [upd, updv, h7, hL]; rfl))
  rw [u4]
  go_simp
  with_reducible refine hK _ ?_
  clear hK K
  refine lx_next 1 (by rfl) (by decide) ?_
  dsimp only [List.take, List.drop]
  repeat (go_big_quiet_step (fail))
  refine wpQuiet_nil ?_
  refine lx_loud (by rfl) (by kernel_rfl) ?_ (fun K hK => ?_)
  · intro L w3 hL hd hcl hC hs
    obtain ⟨x, rfl⟩ := hC
    obtain ⟨c, hmc, hs⟩ := hs
    have hzs := x.size
    have h7 := hcl.off hL 40 7 (by kernel_rfl)
    simp only [hL, h7, cond_false] at hs
    go_wp2
    exact lik_set x hlo ⟨_, rfl⟩ hs 1 (r' := Res.own N 84 2 (.slice (some ⟨x.world.heap.size, 0, none⟩) 1 1) 1 [.int .i64 bp, .slice ba bbs.length bc]) rfl (((Ext.refl x.world).alloc _).chg _) (own_box (by omega) (by decide) rfl) (fun k hk => .inr (by rw [← own_blk hk]; simp)) c hmc (by first | (simp [upd, updv, h7, hL]; done) | (simp [upd, updv, h7, hL]; rfl))
  rw [u6]
  go_simp
  with_reducible refine hK _ ?_
  clear hK K
  refine lx_loud (by rfl) (by kernel_rfl) ?_ (fun K hK => ?_)
  · intro L w3 hL hd hcl hC hs
    obtain ⟨x, rfl⟩ := hC
    obtain ⟨c, hmc, hs⟩ := hs
    have hzs := x.size
    have h4 := hd 4 (by kernel_rfl)
    have h6 := hd 6 (by kernel_rfl)
    simp only [hL, h4, h6, cond_true, cond_false] at hs
    rw [u4, u6] at hs
    have hv := hs.get 0 rfl
    have hvo := hv.outer
    rw [HLTL.out] at hvo
    refine wp_append_sep rfl _ _ 43 84 _ 2 _ rfl info_vis (by kernel_rfl) rfl (by decide) N _ _ _ rfl hvo N k6 1 1 _ rfl (hs.get 1 rfl) (fun u hu => by simp at hu; rcases hu with rfl | rfl <;> rfl) (by omega) (by decide) (by omega) ?_
    intro v' w4 ho4 hC4 hn4
    obtain ⟨aq, ac, rfl⟩ := own_shape ho4
    have hA : (Res.visP N (.slice aq (i + 1) ac) lt c bp (.slice ba bbs.length bc)).A w4 := by
      refine ⟨by rw [HLTL.out]; exact ho4, hv.len, fun j hj => ?_⟩
      obtain ⟨u', e', o'⟩ := hv.inner j hj
      exact ⟨u', e', own_chg o' hC4 (fun k hk e2 => own_ne o' hvo (by decide) k hk e2)⟩
    have HA := Lib.hid hA
    have HN4 := Lib.hid hn4
    clear hA ho4 hv hvo hn4
    go_wp2
    exact lik_set x hlo ⟨_, _, rfl⟩ hs 0 (r' := Res.visP N (.slice aq (i + 1) ac) lt c bp (.slice ba bbs.length bc)) rfl (hC4.mono fun k _ hk => .inl hk) HA.out (fun k hk => by
      rcases hk with hk | hk
      · rcases HN4.out k hk with h | h
        · exact .inl (.inl h)
        · exact .inr h
      · exact .inl (.inr hk)) c hmc (by first | (simp [upd, updv, h4, h6, hL, u4, u6]; done) | (simp [upd, updv, h4, h6, hL, u4, u6]; rfl))
  rw [u7]
  go_simp
  with_reducible refine hK _ ?_
  clear hK K
  refine lx_next 1 (by rfl) (by decide) ?_
  dsimp only [List.take, List.drop]
  repeat (go_big_quiet_step (fail))
  refine wpQuiet_nil ?_
  refine lx_nil ?_
  intro x hs
  obtain ⟨us, -, hs⟩ := hs
  rw [u7] at hs
  have hX4 : Ext w3 x.world := Chg.to_ext (Ext.refl w3) x.chg (by rintro i ⟨_, h⟩; have h : N ≤ i := h; omega)
  have hV4 : VisO x.world B (.slice a7 (i + 1) c7) (lt ++ [⟨bp, bbs⟩]) (us ++ [.slice ba bbs.length bc]) := VisO.close (hs.get 0 rfl) (by omega) ((HS.out.ext hX4).get 0 rfl)
  have hb4 := fun k (hk : (Value.slice a7 (i + 1) c7).ownBlock = some k) => ((hs.lt 0 rfl) k (.inl hk)).1
  have HB4o := Lib.hid hb4
  have HV4 := Lib.hid hV4
  have HX4 := Lib.hid hX4
  clear hs hV4 hX4 hb4 hT hne u4 u6 u7 e0 e1 d0 n7 n5 hlo hlo2
  generalize x.world = w4 at *
  clear x
  have hsz4 := HX4.out.size
  have d0 := (HB5.out.ext HX4.out).cell 0 (v := .slice (some ⟨b, o, none⟩) n c0) rfl
  have hl5' : k5 < w4.heap.size := by omega
  obtain ⟨ld, hld⟩ : ∃ ld, l.drop i = ld := ⟨_, rfl⟩
  have hldl : ld.length = n - i := by rw [← hld, List.length_drop, ← HLEN.out]
  have hldb : ∀ v ∈ ld, v.beds.length ≤ 1000000 := fun v hv => hlb v (List.mem_of_mem_drop (by rw [hld]; exact hv))
  have HLD := Lib.hid hld
  have HLDL := Lib.hid hldl
  have HLDB := Lib.hid hldb
  have HLB := Lib.hid hlb
  obtain ⟨l', hl'⟩ : ∃ l', lt ++ [(⟨bp, bbs⟩ : LV)] ++ ld = l' := ⟨_, rfl⟩
  have hl'l : l'.length = n + 1 := by rw [← hl']; simp only [List.length_append, List.length_singleton, HLTL.out, hldl]; omega
  have HL' := Lib.hid hl'
  have HL'L := Lib.hid hl'l
  clear hld hldl hldb hlb hl' hl'l
  go_upto_region 23 with fail
  go_cut [14] (fun s wx => ∃ a c us', s = .slice a (n + 1) c ∧ VisO wx B (.slice a (n + 1) c) l' us' ∧ Ext w3 wx)
  case first =>
    have ho4 : w4.ownsRow B 84 2 (.slice a7 (i + 1) c7) (i + 1) (lvC (lt ++ [⟨bp, bbs⟩]) (us ++ [.slice ba bbs.length bc])) := by
      have := HV4.out.outer
      rw [List.length_append, HLTL.out] at this
      exact this
    have HO4 := Lib.hid ho4
    clear ho4
    by_cases hci : c0 = i
    · have hvd := law_visits ld (some ⟨b, o, none⟩) 0 w4 (fun j hj => by have := HLDL.out; omega) (by have := HLDL.out; omega) HLDB.out
      have hl0 : ld.length = 0 := by have := HLDL.out; omega
      rw [hl0] at hvd
      have HL0 := Lib.hid hl0
      have HVD := Lib.hid hvd
      have hq1 : c0 - i = 0 := by omega
      have hq2 : n - i = 0 := by omega
      have hni : n ≤ i := by omega
      have hci2 : c0 ≤ i := by omega
      clear hvd hl0 hci
      go_wp2_with fail
      refine HVD.out.mono ?_
      rintro e w5 ⟨v2, us2, rfl, hO2, hx5⟩
      have hHO := own_chg HO4.out (hx5.chg fun _ => False) (fun _ _ => id)
      have hV5 := HV4.out.ext hx5
      have hE5 := HX4.out.trans hx5
      have hlvc := lvC_length ld us2 hO2.len
      have hone := lvC_one hO2
      have hout := hO2.outer
      rw [HL0.out] at hout
      obtain ⟨d2, e2, rfl⟩ := own_shape hout
      have hnil := own_nilC hout
      have hcell : ∀ ad, d2 = some ad → ∀ j u, (lvC ld us2)[j]? = some u → w5.cell? (ad.add j) = some u := by
        intro ad e j u hu
        subst e
        obtain ⟨_, ⟨e, _⟩ | ⟨gg, cap, cur, e, _⟩⟩ := hout
        · cases e
        · cases e
          exact World.ownsRow.cells hO2.outer rfl j u hu
      have HHO := Lib.hid hHO
      have HV5 := Lib.hid hV5
      have HE5 := Lib.hid hE5
      have HLVC := Lib.hid hlvc
      have HONE := Lib.hid hone
      have HNIL := Lib.hid hnil
      have HCELL := Lib.hid hcell
      have HO2 := Lib.hid hO2
      have hsz5 := hE5.size
      clear hHO hV5 hE5 hlvc hone hnil hcell hout hO2 hx5
      go_wp2_with (at_builtin; go_loud (refine wp_append_from rfl _ _ 43 84 _ 2 _ rfl info_vis (by kernel_rfl) rfl (by decide) B _ (i + 1) _ rfl HHO.out d2 0 e2 (lvC ld us2) rfl (fun h => ⟨rfl, (HNIL.out h).2⟩) (by rw [HLVC.out, HL0.out]) HCELL.out HONE.out (by omega) (by decide) (by omega) ?_))
      intro v' w6 ho6 hC6 hn6
      obtain ⟨a6, c6, rfl⟩ := own_shape ho6
      have hV6 : VisO w6 B (.slice a6 (n + 1) c6) l' (us ++ [.slice ba bbs.length bc] ++ us2) := by
        have h1 := VisO.many (w' := w6) (v' := .slice a6 (i + 1 + 0) c6) HV5.out (l2 := ld) (us2 := us2) HO2.out.len (fun j hj => let ⟨u, e, o⟩ := HO2.out.inner j hj; ⟨u, e, own_mono o (by omega)⟩) (by rw [List.length_append, HLTL.out, HL0.out]; exact ho6) hC6
        rw [HL'.out, show i + 1 + 0 = n + 1 by omega] at h1
        exact h1
      have hE6 : Ext w3 w6 := Chg.to_ext HE5.out hC6 (fun k hk => by have := HB4o.out k hk; omega)
      have HV6 := Lib.hid hV6
      have HE6 := Lib.hid hE6
      clear ho6 hC6 hn6 hV6 hE6
      go_wp2
      go_meet
      exact ⟨a6, c6, _, by rw [show i + 1 + 0 = n + 1 by omega], HV6.out, HE6.out⟩
    · have hvd := law_visits ld (some ⟨b, o + i * 2, none⟩) (c0 - i) w4 (by rw [← HLD.out]; exact (HV.out.ext HX4.out).drop i) (by have := HLDL.out; omega) HLDB.out
      rw [HLDL.out] at hvd
      have hq1 : ¬ c0 - i = 0 := by omega
      have HVD := Lib.hid hvd
      clear hvd
      go_wp2_with fail
      refine HVD.out.mono ?_
      rintro e w5 ⟨v2, us2, rfl, hO2, hx5⟩
      have hHO := own_chg HO4.out (hx5.chg fun _ => False) (fun _ _ => id)
      have hV5 := HV4.out.ext hx5
      have hE5 := HX4.out.trans hx5
      have hlvc := lvC_length ld us2 hO2.len
      have hone := lvC_one hO2
      have hout := hO2.outer
      rw [HLDL.out] at hout
      obtain ⟨d2, e2, rfl⟩ := own_shape hout
      have hnil := own_nilC hout
      have hcell : ∀ ad, d2 = some ad → ∀ j u, (lvC ld us2)[j]? = some u → w5.cell? (ad.add j) = some u := by
        intro ad e j u hu
        subst e
        obtain ⟨_, ⟨e, _⟩ | ⟨gg, cap, cur, e, _⟩⟩ := hout
        · cases e
        · cases e
          exact World.ownsRow.cells hO2.outer rfl j u hu
      have HHO := Lib.hid hHO
      have HV5 := Lib.hid hV5
      have HE5 := Lib.hid hE5
      have HLVC := Lib.hid hlvc
      have HONE := Lib.hid hone
      have HNIL := Lib.hid hnil
      have HCELL := Lib.hid hcell
      have HO2 := Lib.hid hO2
      have hsz5 := hE5.size
      clear hHO hV5 hE5 hlvc hone hnil hcell hout hO2 hx5
      go_wp2_with (at_builtin; go_loud (refine wp_append_from rfl _ _ 43 84 _ 2 _ rfl info_vis (by kernel_rfl) rfl (by decide) B _ (i + 1) _ rfl HHO.out d2 (n - i) e2 (lvC ld us2) rfl HNIL.out (by rw [HLVC.out, HLDL.out]) HCELL.out HONE.out (by omega) (by decide) (by omega) ?_))
      intro v' w6 ho6 hC6 hn6
      obtain ⟨a6, c6, rfl⟩ := own_shape ho6
      have hV6 : VisO w6 B (.slice a6 (n + 1) c6) l' (us ++ [.slice ba bbs.length bc] ++ us2) := by
        have h1 := VisO.many (w' := w6) (v' := .slice a6 (i + 1 + (n - i)) c6) HV5.out (l2 := ld) (us2 := us2) HO2.out.len (fun j hj => let ⟨u, e, o⟩ := HO2.out.inner j hj; ⟨u, e, own_mono o (by omega)⟩) (by rw [List.length_append, HLTL.out, HLDL.out]; exact ho6) hC6
        rw [HL'.out, show i + 1 + (n - i) = n + 1 by omega] at h1
        exact h1
      have hE6 : Ext w3 w6 := Chg.to_ext HE5.out hC6 (fun k hk => by have := HB4o.out k hk; omega)
      have HV6 := Lib.hid hV6
      have HE6 := Lib.hid hE6
      have he7 : i + 1 + (n - i) = n + 1 := by omega
      rw [he7]
      clear ho6 hC6 hn6 hV6 hE6 he7
      go_wp2
      go_meet
      exact ⟨a6, c6, _, rfl, HV6.out, HE6.out⟩
  case rest =>
    obtain ⟨a8, c8, us8, rfl, hV8, hX8⟩ := hcut
    obtain ⟨w8, rfl⟩ : ∃ x, x = wc := ⟨_, rfl⟩
    have hvi : VisIn w8 a8 l' := by
      obtain ⟨a', c', e, h, _⟩ := hV8.visIn
      injection e with e1 _ _
      rw [e1]
      exact h
    have hmem : ∀ v ∈ l', v.fits ∧ v.beds.length ≤ 10 := fun v hv => by
      rw [← HL'.out] at hv
      rcases List.mem_append.1 hv with hv | hv
      · rcases List.mem_append.1 hv with hv | hv
        · have := HFS.out v (List.mem_of_mem_take (by rw [HLT.out]; exact hv)); exact ⟨this.1, by omega⟩
        · rw [List.mem_singleton.1 hv]; exact HBad.out.fits
      · have := HFS.out v (List.mem_of_mem_drop (by rw [HLD.out]; exact hv)); exact ⟨this.1, by omega⟩
    have hl'e : l.take i ++ (⟨bp, bbs⟩ : LV) :: l.drop i = l' := by rw [HLT.out, HLD.out, ← HL'.out]; simp
    have hnew : newE r l'.length = 0 := newE_ok HOK.out (by rw [HL'L.out]; omega)
    have hnew0 : newE r l.length = 0 := newE_ok HOK.out (by have := HLEN.out; omega)
    have hplS : playS r l' = (Gm.zero, (i : Int), want) := by
      unfold playS
      rw [if_neg (by simpa using hnew), ← hl'e]
      exact HBad.out.play
    have hjuS : judS r l' = (g, [⟨i, dart, want⟩], 0) := by
      rw [judS_ok hnew, ← hl'e]
      exact Prod.ext HBad.out.las (Prod.ext HBad.out.flt rfl)
    have hju0 : judS r l = (g, [], 0) := by
      rw [judS_ok hnew0]
      obtain ⟨h1, h2⟩ := playL_ok HPL.out 0
      rw [h1, h2]
    have HRu := Lib.hid (fun W (hx : Ext w3 W) => law_rules r a1 c1 W (HCr.out.ext hx) (by omega) HCn.out)
    have hvl := fun W (hx : Ext w8 W) => law_visits l' a8 c8 W (hvi.ext hx) (by rw [HL'L.out]; omega) (fun v hv => by have := (hmem v hv).2; omega)
    rw [HL'L.out] at hvl
    have HVi := Lib.hid hvl
    have hv0 := fun W (hx : Ext w3 W) => law_visits l (some ⟨b, o, none⟩) c0 W (HV.out.ext hx) (by have := HLEN.out; omega) HLB.out
    rw [← HLEN.out] at hv0
    have HV0 := Lib.hid hv0
    have HFI := Lib.hid (fun v (hv : v ∈ l') => (hmem v hv).1)
    have HF0 := Lib.hid (fun v (hv : v ∈ l) => (HFS.out v hv).1)
    have HPLS := Lib.hid hplS
    have HJUS := Lib.hid hjuS
    have HJU0 := Lib.hid hju0
    have hb4 := HB4.out.ext hX8
    have m0 := hb4.cell 0 (v := .slice a1 r.counts.length c1) rfl
    have m1 := hb4.cell 1 (v := .int .i64 r.first) rfl
    have m2 := hb4.cell 2 (v := .int .i64 r.rounds) rfl
    have m3 := hb4.cell 3 (v := .bool r.equal) rfl
    have hml := hb4.lt
    have HX8 := Lib.hid hX8
    clear hV8 hvi hmem hl'e hnew hnew0 hplS hjuS hju0 hvl hv0 hb4 hX8 HVT HLT HLTL HLD HLDL HLDB HL' HBad HS HB4o HV4 HX4 d0
    go_wp2_with fail
    refine (HRu.out _ HX8.out).mono ?_
    rintro e w9 ⟨a9, c9, rfl, hO9, hC9, hx9⟩
    have HC9 := Lib.hid hC9
    have HX9 := Lib.hid hx9
    clear hO9 hC9 hx9 m0 m1 m2 m3 hml
    go_wp2_with fail
    refine (HVi.out _ HX9.out).mono ?_
    rintro e w10 ⟨v10, us10, rfl, hO10, hx10⟩
    obtain ⟨va10, vc10, rfl, hv10⟩ := hO10.vis
    have HPlay := Lib.hid (leg_Play r a9 c9 l' va10 vc10 w10 (HC9.out.ext hx10) (by omega) hv10 HFI.out (by rw [HL'L.out]; omega) _ HPLS.out)
    have HX10 := Lib.hid (HX9.out.trans hx10)
    clear hO10 hv10 hx10 HC9 HX9
    go_wp2_with fail
    refine HPlay.out.mono ?_
    rintro e w11 ⟨v11, rfl, hSt11, hx11⟩
    obtain ⟨ta0, ta1, ta2, ta3, tc0, tc1, tc2, tc3, hRd11⟩ := hSt11.reads
    obtain rfl := hRd11.shape
    rw [show Gm.zero.left.length = 0 from rfl, show Gm.zero.darts.length = 0 from rfl, show Gm.zero.inn.length = 0 from rfl, show Gm.zero.winners.length = 0 from rfl, show Gm.zero.next = 0 from rfl, show Gm.zero.round = 0 from rfl, show Gm.zero.over = false from rfl]
    have HX11 := Lib.hid (HX8.out.trans (HX10.out.trans hx11))
    have HY11 := Lib.hid (HX10.out.trans hx11)
    clear hRd11 hSt11 hx11 HPlay HX10
    go_upto_region 25 with fail
    generalize hW12 : World.alloc w11 _ = w12
    have hx12 : Ext w11 w12 := by rw [← hW12]; exact (Ext.refl w11).alloc _
    have hb15 : Blk w12 w11.heap.size #[.slice ta0 0 tc0, .slice ta1 0 tc1, .slice ta2 0 tc2, .int .i64 0, .int .i64 0, .bool false, .slice ta3 0 tc3] := by rw [← hW12]; exact Blk.new w11 _ _
    obtain ⟨k15, hk15⟩ : ∃ k, k = w11.heap.size := ⟨_, rfl⟩
    rw [← hk15] at hb15 ⊢
    have HB15 := Lib.hid hb15
    have HX12 := Lib.hid (HX11.out.trans hx12)
    have HY12 := Lib.hid (HY11.out.trans hx12)
    have hb4 := HB4.out.ext HX12.out
    have m0 := hb4.cell 0 (v := .slice a1 r.counts.length c1) rfl
    have m1 := hb4.cell 1 (v := .int .i64 r.first) rfl
    have m2 := hb4.cell 2 (v := .int .i64 r.rounds) rfl
    have m3 := hb4.cell 3 (v := .bool r.equal) rfl
    have hml := hb4.lt
    clear hW12 hx12 hb15 hk15 hb4 HX11 HY11
    go_wp2_with fail
    refine (HRu.out _ HX12.out).mono ?_
    rintro e w13 ⟨a13, c13, rfl, hO13, hC13, hx13⟩
    have HC13 := Lib.hid hC13
    have HX13 := Lib.hid hx13
    clear hO13 hC13 hx13 m0 m1 m2 m3 hml
    go_wp2_with fail
    refine (HVi.out _ (HY12.out.trans HX13.out)).mono ?_
    rintro e w14 ⟨v14, us14, rfl, hO14, hx14⟩
    obtain ⟨va14, vc14, rfl, hv14⟩ := hO14.vis
    have HJud := Lib.hid (leg_Judge r a13 c13 l' va14 vc14 w14 (HC13.out.ext hx14) (by omega) hv14 HFI.out (by rw [HL'L.out]; omega) _ HJUS.out)
    have HX14 := Lib.hid (HX13.out.trans hx14)
    clear hO14 hv14 hx14 HC13 HX13
    go_wp2_with fail
    refine HJud.out.mono ?_
    rintro e w15 ⟨v15, f15, rfl, hSt15, hFl15, hx15⟩
    obtain ⟨sa0, sa1, sa2, sa3, sc0, sc1, sc2, sc3, hRd15⟩ := hSt15.reads
    obtain ⟨fa, fc, rfl, hfa⟩ := hFl15.flts
    obtain rfl := hRd15.shape
    have hle : g.left.length = r.counts.length := HGL.out
    have hrl := hRd15.left
    rw [hle, ← HOV.out]
    obtain ⟨fb, fo, rfl, q0, q1, q2⟩ := hfa 0 (by simp)
    simp only [List.getElem_cons_zero, Nat.zero_mul, Nat.add_zero] at q0 q1 q2
    have HQ0 := Lib.hid q0
    have HQ1 := Lib.hid q1
    have HQ2 := Lib.hid q2
    have HRL := Lib.hid hrl
    have HX15 := Lib.hid (HX14.out.trans hx15)
    obtain ⟨nd, hnd⟩ : ∃ nd, g.darts.length = nd := ⟨_, rfl⟩
    obtain ⟨ni, hni⟩ : ∃ ni, g.inn.length = ni := ⟨_, rfl⟩
    obtain ⟨nw, hnw⟩ : ∃ nw, g.winners.length = nw := ⟨_, rfl⟩
    obtain ⟨gx, hgx⟩ : ∃ gx, g.next = gx := ⟨_, rfl⟩
    obtain ⟨gd, hgd⟩ : ∃ gd, g.round = gd := ⟨_, rfl⟩
    simp only [hnd, hni, hnw, hgx, hgd]
    clear hRd15 hSt15 hFl15 hfa hrl hle q0 q1 q2 hx15 hnd hni hnw hgx hgd HJud HX14
    go_upto_region 26 with fail
    generalize hW16 : World.alloc w15 _ = w16
    have hx16 : Ext w15 w16 := by rw [← hW16]; exact (Ext.refl w15).alloc _
    obtain ⟨k18, hk18⟩ : ∃ k, k = w15.heap.size := ⟨_, rfl⟩
    have hb18 : Blk w16 k18 #[.slice sa0 r.counts.length sc0, .slice sa1 nd sc1, .slice sa2 ni sc2, .int .i64 gx, .int .i64 gd, .bool ov, .slice sa3 nw sc3] := by rw [← hW16, hk18]; exact Blk.new w15 _ _
    rw [← hk18]
    have HB18 := Lib.hid hb18
    have hX16 : Ext w3 w16 := HX12.out.trans (HX15.out.trans hx16)
    have HB15b := Lib.hid (HB15.out.ext (HX15.out.trans hx16))
    have HQ0b := Lib.hid (hx16.cell HQ0.out)
    have HQ1b := Lib.hid (hx16.cell HQ1.out)
    have HQ2b := Lib.hid (hx16.cell HQ2.out)
    have HRLb := Lib.hid (HRL.out.ext hx16)
    have hb4 := HB4.out.ext hX16
    have m0 := hb4.cell 0 (v := .slice a1 r.counts.length c1) rfl
    have m1 := hb4.cell 1 (v := .int .i64 r.first) rfl
    have m2 := hb4.cell 2 (v := .int .i64 r.rounds) rfl
    have m3 := hb4.cell 3 (v := .bool r.equal) rfl
    have hml := hb4.lt
    have hb5 := HB5.out.ext hX16
    have d0 := hb5.cell 0 (v := .slice (some ⟨b, o, none⟩) n c0) rfl
    have hl5b := hb5.lt
    have hm4n : ¬ (w16.heap.size ≤ k4) := by omega
    have hm5n : ¬ (w16.heap.size ≤ k5) := by omega
    have HX16 := Lib.hid hX16
    clear hW16 hx16 hk18 hb18 hX16 hb4 hb5 HQ0 HQ1 HQ2 HRL HB15 HX15 HX12 HY12
    refine wp_region_calls (by kernel_rfl) [.no, .of (RulS r) (rulW r) (rulW_shape r), .no, .no, .slc l.length, .of (JudS 0 0) (judW 0 0) (judW_shape 0 0), .no, .no, .no, .no, .ptr, .any] w16.heap.size (fun c => max c.1.2.heap.size (max c.2.1.2.heap.size c.2.2.2.heap.size))
      (fun (c : (Nat × World) × (Nat × World) × (Nat × World)) L u => [bif L 1 then Res.snap c.1 else Res.none, bif L 1 then Res.pure (Ext w16 c.1.2 ∧ w16.heap.size ≤ c.1.1 ∧ RulV r (u 1) c.1.1 c.1.2) else Res.none, bif L 4 then Res.snap c.2.1 else Res.none, bif L 4 then Res.pure (Ext w16 c.2.1.2 ∧ w16.heap.size ≤ c.2.1.1 ∧ VisV l (u 4) c.2.1.1 c.2.1.2) else Res.none,
        bif L 5 then Res.snap c.2.2 else Res.none, bif L 5 then Res.pure (Ext w16 c.2.2.2 ∧ w16.heap.size ≤ c.2.2.1 ∧ JudV (g, [], 0) (u 5) c.2.2.1 c.2.2.2) else Res.none,
        bif L 10 then Res.blk (ptrAt (u 10)) (bif L 11 then #[aggAt 0 (aggAt 0 (u 5)), aggAt 1 (aggAt 0 (u 5)), aggAt 2 (aggAt 0 (u 5)), aggAt 3 (aggAt 0 (u 5)), aggAt 4 (aggAt 0 (u 5)), aggAt 5 (aggAt 0 (u 5)), aggAt 6 (aggAt 0 (u 5))] else #[.slice none 0 0, .slice none 0 0, .slice none 0 0, .int .i64 0, .int .i64 0, .bool false, .slice none 0 0]) else Res.none])
      ((0, w16), (0, w16), (0, w16)) (by kernel_rfl) (Nat.le_of_ble_eq_true rfl) (fun c L L' u hh => by simp only [hh 1 rfl, hh 4 rfl, hh 5 rfl, hh 10 rfl, hh 11 rfl]) (by simp) (fun _ => Frm.nones _ 7 w16) ?_
    intro T hT hne u hu
    obtain ⟨a21, c21, u1⟩ : RulS r (u 1) := hu 1 rfl
    obtain ⟨a24, c24, u4⟩ : ∃ a c, u 4 = .slice a l.length c := hu 4 rfl
    obtain ⟨a50, a51, a52, a53, n50, n51, n52, n53, c50, c51, c52, c53, nx5, rd5, ov5, fa5, fc5, u5⟩ : JudS 0 0 (u 5) := hu 5 rfl
    obtain ⟨k10, u10⟩ : ∃ k, u 10 = .pointer (some ⟨k, 0, none⟩) := hu 10 rfl
    clear hu
    refine lx_next 1 (by rfl) (by decide) ?_
    dsimp only [List.take, List.drop]
    repeat (go_big_quiet_step (fail))
    refine wpQuiet_nil ?_
    refine lx_loud (by rfl) (by kernel_rfl) ?_ (fun K hK => ?_)
    · intro L w3 hL hd hcl hC hs
      obtain ⟨x, rfl⟩ := hC
      obtain ⟨c, hmc, hs⟩ := hs
      have hzs := x.size
      have h5 := hcl.off hL 40 5 (by kernel_rfl)
      have h11 := hcl.off hL 40 11 (by kernel_rfl)
      simp only [hL, h5, h11, cond_false] at hs
      have hX : Ext w16 x.world := Chg.to_ext (Ext.refl w16) x.chg (by rintro i ⟨_, h⟩; exact h)
      go_wp2_with fail
      refine (HRu.out _ (HX16.out.trans hX)).mono ?_
      rintro e w' ⟨a, cc', rfl, hO, hC, hx⟩
      have hsz' := hx.size
      have hmc2 : max c.1.2.heap.size (max c.2.1.2.heap.size c.2.2.2.heap.size) ≤ x.world.heap.size := hmc
      go_wp2
      exact lik_call x (Nat.le_refl _) ⟨_, _, rfl⟩ hs 0 1 (by decide) rfl rfl hx ((x.world.heap.size, w'), c.2) (by show max w'.heap.size (max c.2.1.2.heap.size c.2.2.2.heap.size) ≤ w'.heap.size; omega) (φ := Ext w16 w' ∧ w16.heap.size ≤ x.world.heap.size ∧ RulV r _ x.world.heap.size w') ⟨hX.trans hx, hzs, ⟨_, _, rfl, hO⟩⟩ (by first | (simp [upd, updv, h5, h11, hL]; done) | (simp [upd, updv, h5, h11, hL]; rfl))
    rw [u1]
    go_simp
    with_reducible refine hK _ ?_
    clear hK K
    refine lx_next 2 (by rfl) (by decide) ?_
    dsimp only [List.take, List.drop]
    repeat (go_big_quiet_step (fail))
    refine wpQuiet_nil ?_
    refine lx_loud (by rfl) (by kernel_rfl) ?_ (fun K hK => ?_)
    · intro L w3 hL hd hcl hC hs
      obtain ⟨x, rfl⟩ := hC
      obtain ⟨c, hmc, hs⟩ := hs
      have hzs := x.size
      have h5 := hcl.off hL 40 5 (by kernel_rfl)
      have h11 := hcl.off hL 40 11 (by kernel_rfl)
      simp only [hL, h5, h11, cond_false] at hs
      have hX : Ext w16 x.world := Chg.to_ext (Ext.refl w16) x.chg (by rintro i ⟨_, h⟩; exact h)
      go_wp2_with fail
      refine (HV0.out _ (HX16.out.trans hX)).mono ?_
      rintro e w' ⟨v, us, rfl, hO, hx⟩
      have hsz' := hx.size
      have hmc2 : max c.1.2.heap.size (max c.2.1.2.heap.size c.2.2.2.heap.size) ≤ x.world.heap.size := hmc
      have HO := Lib.hid hO
      have hsh := own_shape hO.outer
      have HSh := Lib.hid hsh
      clear hO hsh
      go_wp2
      exact lik_call x (Nat.le_refl _) HSh.out hs 2 3 (by decide) rfl rfl hx (c.1, (x.world.heap.size, w'), c.2.2) (by show max c.1.2.heap.size (max w'.heap.size c.2.2.2.heap.size) ≤ w'.heap.size; omega) (φ := Ext w16 w' ∧ w16.heap.size ≤ x.world.heap.size ∧ VisV l _ x.world.heap.size w') ⟨hX.trans hx, hzs, ⟨_, HO.out⟩⟩ (by first | (simp [upd, updv, h5, h11, hL]; done) | (simp [upd, updv, h5, h11, hL]; rfl))
    rw [u4]
    go_simp
    with_reducible refine hK _ ?_
    clear hK K
    refine lx_loud (by rfl) (by kernel_rfl) ?_ (fun K hK => ?_)
    · intro L w3 hL hd hcl hC hs
      obtain ⟨x, rfl⟩ := hC
      obtain ⟨c, hmc, hs⟩ := hs
      have hzs := x.size
      have h11 := hcl.off hL 40 11 (by kernel_rfl)
      have h1 := hd 1 (by kernel_rfl)
      have h4 := hd 4 (by kernel_rfl)
      simp only [hL, h11, h1, h4, cond_true, cond_false] at hs
      rw [u1, u4] at hs
      have hX : Ext w16 x.world := Chg.to_ext (Ext.refl w16) x.chg (by rintro i ⟨_, h⟩; exact h)
      have hmc2 : max c.1.2.heap.size (max c.2.1.2.heap.size c.2.2.2.heap.size) ≤ x.world.heap.size := hmc
      have hp1 : Ext w16 c.1.2 ∧ w16.heap.size ≤ c.1.1 ∧ RulV r (.agg #[.slice a21 r.counts.length c21, .int .i64 r.first, .int .i64 r.rounds, .bool r.equal]) c.1.1 c.1.2 := hs.get 1 rfl
      have hp4 : Ext w16 c.2.1.2 ∧ w16.heap.size ≤ c.2.1.1 ∧ VisV l (.slice a24 l.length c24) c.2.1.1 c.2.1.2 := hs.get 3 rfl
      have hr1 := (hp1.2.2.chg (snap_chg (hs.get 0 rfl) hp1.1 hX (by omega)) (fun k hk => hk.2)).reads.1
      have hv4 := hp4.2.2.chg (snap_chg (hs.get 2 rfl) hp4.1 hX (by omega)) (fun k hk => hk.2)
      obtain ⟨us4, hO4⟩ := hv4
      obtain ⟨va4, vc4, e4, hvis4⟩ := hO4.vis
      have hva : va4 = a24 := by injection e4 with e5 _ _; exact e5.symm
      subst hva
      have HJ5 := Lib.hid (leg_Judge r a21 c21 l va4 c24 x.world hr1 (by omega) hvis4 HF0.out (by have := HLEN.out; omega) _ HJU0.out)
      have HS5 := Lib.hid hs
      clear hp1 hp4 hr1 hO4 e4 hvis4 hs
      go_wp2_with fail
      refine HJ5.out.mono ?_
      rintro e w' ⟨v, fv, rfl, hSt, hFl, hx⟩
      have hsz' := hx.size
      have hV : JudV (g, [], 0) (.tuple #[v, fv, .int .i64 0]) x.world.heap.size w' := ⟨v, fv, rfl, hSt, hFl⟩
      have hsh := hV.shape
      have HV' := Lib.hid hV
      have HSh := Lib.hid hsh
      clear hV hsh hSt hFl
      go_wp2
      exact lik_call x (Nat.le_refl _) HSh.out HS5.out 4 5 (by decide) rfl rfl hx (c.1, c.2.1, (x.world.heap.size, w')) (by show max c.1.2.heap.size (max c.2.1.2.heap.size w'.heap.size) ≤ w'.heap.size; omega) (φ := Ext w16 w' ∧ w16.heap.size ≤ x.world.heap.size ∧ JudV (g, [], 0) _ x.world.heap.size w') ⟨hX.trans hx, hzs, HV'.out⟩ (by first | (simp [upd, updv, h11, h1, h4, hL, u1, u4]; done) | (simp [upd, updv, h11, h1, h4, hL, u1, u4]; rfl))
    rw [u5]
    go_simp
    with_reducible refine hK _ ?_
    clear hK K
    refine lx_next 4 (by rfl) (by decide) ?_
    dsimp only [List.take, List.drop]
    repeat (go_big_quiet_step (fail))
    refine wpQuiet_nil ?_
    refine lx_loud (by rfl) (by kernel_rfl) ?_ (fun K hK => ?_)
    · intro L w3 hL hd hcl hC hs
      obtain ⟨x, rfl⟩ := hC
      obtain ⟨c, hmc, hs⟩ := hs
      have hzs := x.size
      have h11 := hcl.off hL 40 11 (by kernel_rfl)
      simp only [hL, h11, cond_false] at hs
      go_wp2
      exact lik_set x (Nat.le_refl _) ⟨_, rfl⟩ hs 6 (r' := Res.blk x.world.heap.size #[.slice none 0 0, .slice none 0 0, .slice none 0 0, .int .i64 0, .int .i64 0, .bool false, .slice none 0 0]) rfl (((Ext.refl x.world).alloc _).chg _) (Blk.new _ _ _) (fun k hk => .inr (by rw [show k = x.world.heap.size from hk]; simp)) c hmc (by first | (simp [upd, updv, h11, hL]; done) | (simp [upd, updv, h11, hL]; rfl))
    rw [u10]
    go_simp
    with_reducible refine hK _ ?_
    clear hK K
    refine lx_loud (by rfl) (by kernel_rfl) ?_ (fun K hK => ?_)
    · intro L w3 hL hd hcl hC hs
      obtain ⟨x, rfl⟩ := hC
      obtain ⟨c, hmc, hs⟩ := hs
      have hzs := x.size
      have h5 := hcl.on 40 (hd 7 (by kernel_rfl)) (j := 7) (i := 5) (by kernel_rfl)
      have h10 := hd 10 (by kernel_rfl)
      simp only [hL, h10, cond_true, cond_false, h5] at hs
      rw [u10] at hs
      have hb : Blk x.world k10 #[.slice none 0 0, .slice none 0 0, .slice none 0 0, .int .i64 0, .int .i64 0, .bool false, .slice none 0 0] := hs.get 6 rfl
      have hlt := hb.lt
      have q0 := hb.cell 0 (v := .slice none 0 0) rfl
      have f0 := hb.frozen 0
      have q1 := hb.cell 1 (v := .slice none 0 0) rfl
      have f1 := hb.frozen 1
      have q2 := hb.cell 2 (v := .slice none 0 0) rfl
      have f2 := hb.frozen 2
      have q3 := hb.cell 3 (v := .int .i64 0) rfl
      have f3 := hb.frozen 3
      have q4 := hb.cell 4 (v := .int .i64 0) rfl
      have f4 := hb.frozen 4
      have q5 := hb.cell 5 (v := .bool false) rfl
      have f5 := hb.frozen 5
      have q6 := hb.cell 6 (v := .slice none 0 0) rfl
      have f6 := hb.frozen 6
      go_wp2
      exact lik_set x (Nat.le_refl _) trivial hs 6 rfl (seven_chg (fun k => k = k10) _ rfl _ _ _ _ _ _ _) (r' := Res.blk k10 #[.slice a50 n50 c50, .slice a51 n51 c51, .slice a52 n52 c52, .int .i64 nx5, .int .i64 rd5, .bool ov5, .slice a53 n53 c53]) (seven_set hb _ _ _ _ _ _ _) (fun _ hk => .inl hk) c hmc (by first | (simp [upd, updv, h10, hL, u10, u5, h5, aggAt, ptrAt]; done) | (simp [upd, updv, h10, hL, u10, u5, h5, aggAt, ptrAt]; rfl))
    go_simp
    with_reducible refine hK _ ?_
    clear hK K
    refine lx_next 2 (by rfl) (by decide) ?_
    dsimp only [List.take, List.drop]
    repeat (go_big_quiet_step (fail))
    refine wpQuiet_nil ?_
    refine lx_nil ?_
    intro x hs
    obtain ⟨c, hmc, hs⟩ := hs
    rw [u5, u10] at hs
    have hX : Ext w16 x.world := Chg.to_ext (Ext.refl w16) x.chg (by rintro i ⟨_, h⟩; exact h)
    have hmc2 : max c.1.2.heap.size (max c.2.1.2.heap.size c.2.2.2.heap.size) ≤ x.world.heap.size := hmc
    have hp5 : Ext w16 c.2.2.2 ∧ w16.heap.size ≤ c.2.2.1 ∧ JudV (g, [], 0) (.tuple #[.agg #[.slice a50 n50 c50, .slice a51 n51 c51, .slice a52 n52 c52, .int .i64 nx5, .int .i64 rd5, .bool ov5, .slice a53 n53 c53], .slice fa5 0 fc5, .int .i64 0]) c.2.2.1 c.2.2.2 := hs.get 5 rfl
    have hj5 := (hp5.2.2.chg (snap_chg (hs.get 4 rfl) hp5.1 hX (by omega)) (fun k hk => hk.2)).reads
    have hb21 : Blk x.world k10 #[.slice a50 n50 c50, .slice a51 n51 c51, .slice a52 n52 c52, .int .i64 nx5, .int .i64 rd5, .bool ov5, .slice a53 n53 c53] := hs.get 6 rfl
    obtain ⟨hn50, hcl50, hov5⟩ := hj5
    have hn50' : n50 = r.counts.length := hn50.trans HGL.out
    subst hn50'
    have HC50 := Lib.hid hcl50
    have HB21 := Lib.hid hb21
    have HX17 := Lib.hid hX
    clear hs hmc hmc2 hp5 hb21 hn50 hcl50 hov5 hX hT hne u1 u4 u5 u10 m0 m1 m2 m3 d0 hml hl5b hm4n hm5n
    generalize x.world = w17 at *
    clear x
    have hXX := HX17.out
    have HW17 := Lib.hid (HX16.out.trans hXX)
    have hb15 := HB15b.out.ext hXX
    have hb18 := HB18.out.ext hXX
    have g0 := hb15.cell 0 (v := .slice ta0 0 tc0) rfl
    have g5 := hb15.cell 5 (v := .bool false) rfl
    have gl := hb15.lt
    have i0 := hb18.cell 0 (v := .slice sa0 r.counts.length sc0) rfl
    have i5 := hb18.cell 5 (v := .bool ov) rfl
    have il := hb18.lt
    have j0 := HB21.out.cell 0 (v := .slice a50 r.counts.length c50) rfl
    have jl := HB21.out.lt
    have hb4 := HB4.out.ext HW17.out
    have m0 := hb4.cell 0 (v := .slice a1 r.counts.length c1) rfl
    have hml := hb4.lt
    have hb5 := HB5.out.ext HW17.out
    have d7 := hb5.cell 7 (v := .bool ov) rfl
    have hl5b := hb5.lt
    have q0 := hXX.cell HQ0b.out
    have q1 := hXX.cell HQ1b.out
    have q2 := hXX.cell HQ2b.out
    have hfl := lt_of_cell q0
    simp only at hfl
    have HRLc := Lib.hid (HRLb.out.ext hXX)
    clear hXX hb15 hb18 hb4 hb5 HQ0b HQ1b HQ2b HRLb HB15b HX16 HX17
    go_wp2_with fail
    go_loopw [24] (fun k wr => ∃ q : Nat, q ≤ r.counts.length ∧ k = .int .i64 q ∧ Ext w17 wr) (fun k _ => r.counts.length - (intOf k).toNat)
    case atStart => exact ⟨0, Nat.zero_le _, rfl, Ext.refl w17⟩
    case round =>
      obtain ⟨q, hq, rfl, hx⟩ := hrel
      have hsz := hx.size
      replace i0 := hx.cell i0
      replace i5 := hx.cell i5
      replace j0 := hx.cell j0
      replace m0 := hx.cell m0
      replace d7 := hx.cell d7
      replace il : k18 < wr.heap.size := by omega
      replace jl : k10 < wr.heap.size := by omega
      replace hml : k4 < wr.heap.size := by omega
      replace hl5b : k5 < wr.heap.size := by omega
      clear g0 g5 gl q0 q1 q2 hfl
      by_cases hlt : q < r.counts.length
      · have hgl : q < g.left.length := by rw [HGL.out]; exact hlt
        obtain ⟨xb, xo, rfl, x0⟩ := HRLc.out q hgl
        obtain ⟨yb, yo, rfl, y0⟩ := HC50.out q hgl
        replace x0 := hx.cell x0
        replace y0 := hx.cell y0
        have hxl := lt_of_cell x0
        have hyl := lt_of_cell y0
        simp only at hxl hyl
        generalize g.left[q] = z at *
        go_wp2
        go_quiet (fail)
        go_wp2
        go_roundw
        case rel => exact ⟨q + 1, by omega, by go_num, (by exact hx.drewN _)⟩
        case measure => simp [intOf]; omega
      · have HXr := Lib.hid ((HX.out.trans HW17.out).trans hx)
        clear hx
        go_wp2_with fail
        refine (law_known _).mono ?_
        rintro e w18 ⟨rfl, hx18⟩
        go_wp2
        go_ret
        exact ⟨rfl, HXr.out.trans hx18⟩
end Go.Proofs.Ytocnglplhnhllaa
