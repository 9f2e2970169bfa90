/-
  Package team: the seal of an order of one player; the examples that the tops ask.
-/
import Derived.Test.YtoddmaedianliaaTmd
namespace Go.Proofs.Ytoddmaedianliaa
open Go.RowKit Go.BigFrame
attribute [local go_sem] Later.cell Later.frozen Lat.cell Lat.frozen
/-- While the one code is put to a seal. -/
structure SlG (b N : Nat) (L : Nat → Bool) (u : Nat → Value) (w : World) : Prop where
  blk : Blk w b #[.int .i64 7, bif L 11 then u 9 else .slice none 0 0]
  box : L 8 = true → L 9 = false → ∃ k, u 8 = .slice (some ⟨k, 0, none⟩) 1 1 ∧ w.cell? ⟨k, 0, none⟩ = some (.int .i64 144813)
  out : L 9 = true → OwnI w N (u 9) [144813]
structure SlR (k : Nat) (v : Value) : Prop where
  load : k = 1 → v = .slice none 0 0
  box : k = 8 → ∃ k, v = .slice (some ⟨k, 0, none⟩) 1 1
  out : k = 9 → ∃ a c, v = .slice a 1 c
theorem SlG.mono {b N : Nat} {L : Nat → Bool} {u : Nat → Value} {w w' : World} (h : SlG b N L u w) (hx : Ext w w') : SlG b N L u w' :=
  ⟨h.blk.ext hx, fun e e2 => let ⟨k, h1, h2⟩ := h.box e e2; ⟨k, h1, hx.cell h2⟩, fun e => (h.out e).ext hx⟩
set_option maxRecDepth 100000 in
set_option maxHeartbeats 2000000 in
theorem team_Seal1 (gb ob pb : Nat) (w : World) (hg : GameAt w gb) (ho : w.cell? ⟨ob, 0, none⟩ = some (.slice (some ⟨pb, 0, none⟩) 1 1)) (hp : w.cell? ⟨pb, 0, none⟩ = some (.int .i64 2)) :
    Calls Try.prog 20 #[.agg (ruleC gb), .agg #[.slice (some ⟨ob, 0, none⟩) 1 1, .int .i64 1]] w fun e w' => (∃ a c, e = .returned (.tuple #[.agg #[.int .i64 7, .slice a 1 c], .int .i64 0]) ∧ CellsAt w' .i64 a [144813]) ∧ Ext w w' := by
  have HG := Lib.hid hg
  have HO := Lib.hid ho
  have HP := Lib.hid hp
  clear hg ho hp
  have hCk := fun W (hW : Ext w W) => team_Check1 gb W (HG.out.ext hW)
  have hIs := fun W (hW : Ext w W) => team_isOrder1 gb ob pb W (HG.out.ext hW) (hW.cell HO.out) (hW.cell HP.out)
  have HCk := Lib.hid hCk
  have HIs := Lib.hid hIs
  clear hCk hIs
  unfold ruleC at HCk HIs ⊢
  go_enter Try.func20, Try.ntmps20
  go_wp2_with fail
  refine (HCk.out _ (by exact (((Ext.refl w).alloc _).alloc _).alloc _)).mono ?_
  rintro e w1 ⟨rfl, hx1⟩
  have hA1 : Blk w1 w.heap.size #[.int .i64 4, .slice (some ⟨gb, 0, none⟩) 1 1, .int .i64 1, .int .i64 0] := (((Blk.new w _ _).alloc _).alloc _).ext hx1
  have hB1 : Blk w1 (w.heap.size + 1) #[.slice (some ⟨ob, 0, none⟩) 1 1, .int .i64 1] := ((Blk.at _ (by simp)).alloc _).ext hx1
  have hC1 : Blk w1 (w.heap.size + 1 + 1) #[.int .i64 0, .slice none 0 0] := (Blk.at _ (by simp)).ext hx1
  have hE1 : Ext w w1 := Ext.trans ((((Ext.refl w).alloc _).alloc _).alloc _) hx1
  have HA1 := Lib.hid hA1
  have HB1 := Lib.hid hB1
  have HC1 := Lib.hid hC1
  have c0 := hA1.cell 0 (v := .int .i64 4) rfl
  have c1 := hA1.cell 1 (v := .slice (some ⟨gb, 0, none⟩) 1 1) rfl
  have c2 := hA1.cell 2 (v := .int .i64 1) rfl
  have c3 := hA1.cell 3 (v := .int .i64 0) rfl
  have d0 := hB1.cell 0 (v := .slice (some ⟨ob, 0, none⟩) 1 1) rfl
  have hal := hA1.lt
  have hbl := hB1.lt
  clear hA1 hB1 hC1 hx1
  go_wp2_with fail
  refine (HIs.out _ hE1).mono ?_
  rintro e w2 ⟨rfl, hx2⟩
  have hE2 := hE1.trans hx2
  have HA2 := Lib.hid (HA1.out.ext hx2)
  have HB2 := Lib.hid (HB1.out.ext hx2)
  have HC2 := Lib.hid (HC1.out.ext hx2)
  clear c0 c1 c2 c3 d0 hal hbl HA1 HB1 HC1 hx2 hE1
  have d1 := HB2.out.cell 1 (v := .int .i64 1) rfl
  have hbl := HB2.out.lt
  go_wp2_with fail
  refine (team_within_1 0 2147483645 1 _ _ (by simp)).mono ?_
  rintro e w3 ⟨rfl, hx3⟩
  rw [ins_ok (by decide)]
  have hE3 := hE2.trans hx3
  have HB3 := Lib.hid (HB2.out.ext hx3)
  have HC3 := Lib.hid (HC2.out.ext hx3)
  clear d1 hbl HA2 HB2 HC2 hx3 hE2
  have d1 := HB3.out.cell 1 (v := .int .i64 1) rfl
  have hbl := HB3.out.lt
  go_wp2_with fail
  refine (team_front1 _).mono ?_
  rintro e w4 ⟨rfl, hx4⟩
  have hE4 := hE3.trans hx4
  have HB4 := Lib.hid (HB3.out.ext hx4)
  have hC4 := HC3.out.ext hx4
  have hcl := hC4.lt
  have f0 := hC4.frozen 0
  have e0 := hC4.cell 0 (v := .int .i64 0) rfl
  have hC5 := hC4.set 0 (.int .i64 7)
  have hset := Chg.setCell (S := (· = w.heap.size + 1 + 1)) (Chg.refl _ w4) (p := ⟨w.heap.size + 1 + 1, 0, none⟩) (.inr rfl) (.int .i64 7)
  have hE5 := Chg.to_ext hE4 hset (by rintro i rfl; omega)
  have hB5 := HB4.out.chg hset (by omega)
  have d0 := hB5.cell 0 (v := .slice (some ⟨ob, 0, none⟩) 1 1) rfl
  have hbl5 := hB5.lt
  have HC5 := Lib.hid hC5
  clear d1 hbl HB3 HC3 HB4 hx4 hE3 hE4 hC4 hC5 hset hB5
  go_upto_region 8 with fail
  generalize hW5 : w4.setCell ⟨w.heap.size + 1 + 1, 0, none⟩ (.int .i64 7) = w5 at *
  clear hW5
  go_wp2
  go_loopw [35] (fun i wr => ∃ k : Nat, k ≤ 1 ∧ i = .int .i64 k ∧ (k = 0 → Blk wr (w.heap.size + 1 + 1) #[.int .i64 7, .slice none 0 0]) ∧ (k = 1 → ∃ a c, Blk wr (w.heap.size + 1 + 1) #[.int .i64 7, .slice a 1 c] ∧ OwnI wr (w.heap.size + 1 + 1 + 1) (.slice a 1 c) [144813]) ∧ Ext w wr) (fun i _ => 1 - (intOf i).toNat)
  case atStart => exact ⟨0, by omega, rfl, fun _ => HC5.out, fun h => (by cases h), hE5⟩
  case round =>
    obtain ⟨k, hk, rfl, hk0, hk1, hx⟩ := hrel
    have HK0 := Lib.hid hk0
    have HK1 := Lib.hid hk1
    clear hk0 hk1 HC5
    rcases (by omega : k = 0 ∨ k = 1) with rfl | rfl
    · rw [show ((0 : Nat) : Int) = 0 from rfl]
      have o0 := hx.cell HO.out
      have p0 := hx.cell HP.out
      have hol := lt_of_cell o0
      have hpl := lt_of_cell p0
      have hpw := lt_of_cell HP.out
      simp only at hpw
      have hC := HK0.out rfl
      have hcl6 := hC.lt
      have HC := Lib.hid hC
      have hCd := fun z : Lat (fun b' o => b' = w.heap.size + 1 + 1 ∧ o = 1) wr => team_code1 pb 1 z.world (by rw [z.cell hpl (by rintro ⟨h, _⟩; omega)]; exact p0)
      have HCd := Lib.hid hCd
      clear hC hCd
      go_upto_region 11 with fail
      refine wp_region_lat (by kernel_rfl) (fun b' o => b' = w.heap.size + 1 + 1 ∧ o = 1) (fun k => k == 1 || (k == 8 || (k == 9 || k == 11))) SlR (SlG (w.heap.size + 1 + 1) wr.heap.size)
        (by kernel_rfl) (fun k hk => by simp only [Bool.or_eq_true, beq_iff_eq] at hk; show k < 12; omega)
        (fun L L' u w hh hg => ⟨by rw [hh 11 rfl]; exact hg.blk, by rw [hh 8 rfl, hh 9 rfl]; exact hg.box, by rw [hh 9 rfl]; exact hg.out⟩)
        (fun L u w w' hg hx => hg.mono hx)
        (fun j => if j = 1 then .slice none 0 0 else if j = 8 then .slice (some ⟨0, 0, none⟩) 1 1 else .slice none 1 0)
        (fun j hj => ⟨fun h => by subst h; rfl, fun h => by subst h; exact ⟨0, rfl⟩, fun h => by subst h; exact ⟨none, 0, rfl⟩⟩)
        ⟨HC.out.drew, fun h => (by cases h), fun h => (by cases h)⟩ ?_
      intro T hT hne u hu
      have u1 := (hu 1 rfl).load rfl
      obtain ⟨k8, u8⟩ := (hu 8 rfl).box rfl
      obtain ⟨a9, c9, u9⟩ := (hu 9 rfl).out rfl
      refine lx_next 1 (by rfl) (by decide) ?_
      dsimp only [List.take, List.drop]
      repeat (go_big_quiet_step (fail))
      refine wpQuiet_nil ?_
      refine lx_loud (by rfl) (by kernel_rfl) ?_ (fun K hK => ?_)
      · intro L w3 hL hd hcl hC hg
        obtain ⟨z, rfl⟩ := hC
        have h11 := hcl.off hL 30 11 (by kernel_rfl)
        have hb := hg.blk
        rw [h11] at hb
        have hcc := hb.cell 1 (v := .slice none 0 0) rfl
        have hzs := hb.lt
        have HG9 := Lib.hid hg
        clear hb hg
        go_wp2
        exact ⟨⟨fun _ => rfl, fun h => absurd h (by decide), fun h => absurd h (by decide)⟩, ⟨z, rfl⟩, ⟨HG9.out.blk, HG9.out.box, HG9.out.out⟩⟩
      rw [u1]
      go_simp
      with_reducible refine hK _ ?_
      clear hK K
      refine lx_next 6 (by rfl) (by decide) ?_
      dsimp only [List.take, List.drop]
      repeat (go_big_quiet_step (first | (with_reducible refine Calls.lat hT (HCd.out _)) | (with_reducible refine Calls.lat hT (team_mask1 _)) | (refine Calls.lat hT ((team_times 3 48271 _ (by decide) (by decide)).mono fun _ _ h => ⟨h.1, h.2 ▸ Ext.refl _⟩))))
      refine wpQuiet_nil ?_
      refine lx_loud (by rfl) (by kernel_rfl) ?_ (fun K hK => ?_)
      · intro L w3 hL hd hcl hC hg
        obtain ⟨z, rfl⟩ := hC
        have hx9 := (Ext.refl z.world).alloc (.cells #[.int .i64 144813] 3)
        have hb9 : Blk (z.world.alloc (.cells #[.int .i64 144813] 3)) z.world.heap.size #[.int .i64 144813] := Blk.new _ _ _
        have hm := hg.mono hx9
        go_wp2
        exact ⟨⟨fun h => absurd h (by decide), fun _ => ⟨_, rfl⟩, fun h => absurd h (by decide)⟩, ⟨z.ext hx9, rfl⟩, ⟨hm.blk, fun _ _ => ⟨_, rfl, hb9.cell 0 rfl⟩, hm.out⟩⟩
      rw [u8]
      go_simp
      with_reducible refine hK _ ?_
      clear hK K
      refine lx_loud (by rfl) (by kernel_rfl) ?_ (fun K hK => ?_)
      · intro L w3 hL hd hcl hC hg
        obtain ⟨z, rfl⟩ := hC
        have h11 := hcl.off hL 30 11 (by kernel_rfl)
        obtain ⟨k, e8, hb8⟩ := hg.box (hd 8 (by kernel_rfl)) hL
        obtain rfl : k = k8 := by have h := e8.symm.trans u8; cases h; rfl
        have hzs : wr.heap.size ≤ z.world.heap.size := z.size
        go_wp2_with (at_builtin; refine wp_append_i rfl _ _ rfl wr.heap.size (.slice none 0 0) [] rfl (OwnI.nil _ _) ⟨k, 0, none⟩ 1 144813 rfl hb8 (by decide) hzs ?_)
        intro v' w4 hO4 hg4
        obtain ⟨av, ac, hv', -⟩ := hO4.cells
        have hx9 : Ext z.world w4 := Chg.to_ext (Ext.refl _) (grown_chg hg4) (fun i e => by cases e)
        have hm := hg.mono hx9
        subst hv'
        go_wp2
        refine ⟨⟨fun h => absurd h (by decide), fun h => absurd h (by decide), fun _ => ⟨_, _, rfl⟩⟩, ⟨z.ext hx9, rfl⟩, ⟨?_, fun _ h => (by simp [upd] at h), fun _ => hO4⟩⟩
        have hb := hm.blk
        rw [h11] at hb
        simp only [upd]
        rw [h11]
        exact hb
      rw [u9]
      go_simp
      with_reducible refine hK _ ?_
      clear hK K
      refine lx_next 1 (by rfl) (by decide) ?_
      dsimp only [List.take, List.drop]
      repeat (go_big_quiet_step (fail))
      refine wpQuiet_nil ?_
      refine lx_loud (by rfl) (by kernel_rfl) ?_ (fun K hK => ?_)
      · intro L w3 hL hd hcl hC hg
        obtain ⟨z, rfl⟩ := hC
        have hb := hg.blk
        rw [hL] at hb
        have f1 := hb.frozen 1
        have q1 := hb.cell 1 (v := .slice none 0 0) rfl
        have hzs := hb.lt
        have hset := Chg.setCell (S := (· = w.heap.size + 1 + 1)) (Chg.refl _ z.world) (p := ⟨w.heap.size + 1 + 1, 1, none⟩) (.inr rfl) (.slice a9 1 c9)
        have hb2 := hb.set 1 (.slice a9 1 c9)
        have ho9 := hg.out (hd 9 (by kernel_rfl))
        have hzl := z.size
        have h9 : L 9 = true := hd 9 (by kernel_rfl)
        go_wp2
        refine ⟨⟨fun h => absurd h (by decide), fun h => absurd h (by decide), fun h => absurd h (by decide)⟩, ⟨z.setCell (.inr ⟨rfl, rfl⟩) _, rfl⟩, ⟨?_, fun _ h => (by simp [upd, h9] at h), fun _ => ho9.chg hset (fun j e e2 => by have := (own_lt ho9 j e).1; omega)⟩⟩
        simp only [upd, updv]
        rw [u9]
        exact hb2
      go_simp
      with_reducible refine hK _ ?_
      clear hK K
      refine lx_nil ?_
      intro z hG
      have hb9 := hG.blk
      have ho9 := hG.out rfl
      simp only [cond_true] at hb9
      rw [u9] at hb9 ho9
      have hE9 : Ext w z.world := Chg.to_ext hx z.chg (by rintro j ⟨_, h1, _⟩; omega)
      have ho10 : OwnI z.world (w.heap.size + 1 + 1 + 1) (.slice a9 1 c9) [144813] := own_mono ho9 (by omega)
      have HB9 := Lib.hid hb9
      have HO9 := Lib.hid ho10
      clear hG hb9 ho9 ho10 u1 u8 u9 hu hT hne o0 p0 hol hpl
      generalize z.world = w9 at *
      clear z
      go_wp2
      go_roundw
      case rel => exact ⟨1, by omega, by go_num, fun h => (by cases h), fun _ => ⟨a9, c9, HB9.out, HO9.out⟩, hE9⟩
      case measure => simp [intOf]
    · rw [show ((1 : Nat) : Int) = 1 from rfl]
      obtain ⟨a9, c9, hb9, ho9⟩ := HK1.out rfl
      have q0 := hb9.cell 0 (v := .int .i64 7) rfl
      have q1 := hb9.cell 1 (v := .slice a9 1 c9) rfl
      have f0 := hb9.frozen 0
      have f1 := hb9.frozen 1
      have hbl9 := hb9.lt
      obtain ⟨ax, cx, hv, hcx⟩ := ho9.cells
      obtain ⟨rfl, rfl⟩ : a9 = ax ∧ c9 = cx := by injection hv with a1 _ a3; exact ⟨a1, a3⟩
      have hsA := (Chg.setCell (S := (· = w.heap.size + 1 + 1)) (Chg.refl _ wr) (p := ⟨w.heap.size + 1 + 1, 0, none⟩) (.inr rfl) (.int .i64 7)).setCell (p := ⟨w.heap.size + 1 + 1, 1, none⟩) (.inr rfl) (.slice a9 1 c9)
      have hB2 := (hb9.set 0 (.int .i64 7)).set 1 (.slice a9 1 c9)
      have r0 := hB2.cell 0 (v := .int .i64 7) rfl
      have r1 := hB2.cell 1 (v := .slice a9 1 c9) rfl
      have ho11 := ho9.chg hsA (fun j e e2 => by have := (own_lt ho9 j e).1; omega)
      obtain ⟨ay, cy, hv2, hcy⟩ := ho11.cells
      obtain ⟨rfl, rfl⟩ : a9 = ay ∧ c9 = cy := by injection hv2 with a1 _ a3; exact ⟨a1, a3⟩
      have HCY := Lib.hid hcy
      have hE11 := Chg.to_ext hx hsA (by rintro j rfl; omega)
      clear hb9 ho9 hcx hv hB2 ho11 hcy hv2 hsA
      go_wp2
      refine bodyPost_ret (v := .tuple #[.agg #[.int .i64 7, .slice a9 1 c9], .int .i64 0]) (by simp [results, Try.results20, go_sem, r0, r1]) rfl ?_
      exact ⟨⟨a9, ⟨c9, rfl⟩, HCY.out⟩, hE11⟩
end Go.Proofs.Ytoddmaedianliaa
