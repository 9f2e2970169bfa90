/-
  The laws of chapter 6: worth, opens, Night.count.
-/
import Derived.Test.YtmopadnkjlodnaaNtb
import Derived.Test.YtmopadnkjlodnaaLegD
namespace Go.Proofs.Ytmopadnkjlodnaa
open Go.RowKit Go.BigFrame
attribute [local go_sem] Later.cell Later.frozen Lat.cell Lat.frozen NoX
theorem three_set {w : World} {b : Nat} {v0 v1 v2 : Value} (h : Blk w b #[v0, v1, v2]) (x0 x1 x2 : Value) : Blk (((w.setCell ⟨b, 0, none⟩ x0).setCell ⟨b, 1, none⟩ x1).setCell ⟨b, 2, none⟩ x2) b #[x0, x1, x2] := by
  have h0 : Blk _ b #[x0, v1, v2] := h.set 0 x0
  have h1 : Blk _ b #[x0, x1, v2] := h0.set 1 x1
  have h2 : Blk _ b #[x0, x1, x2] := h1.set 2 x2
  exact h2
theorem three_chg (S : Nat → Prop) (w : World) {b : Nat} (hb : S b) (x0 x1 x2 : Value) : Chg S w (((w.setCell ⟨b, 0, none⟩ x0).setCell ⟨b, 1, none⟩ x1).setCell ⟨b, 2, none⟩ x2) := (((Chg.refl S w).setCell (.inr hb) x0).setCell (.inr hb) x1).setCell (.inr hb) x2
/-- A bed, or a miss. -/
def BedOk (b : Int) : Prop := b = 0 ∨ isBedB b = true
theorem BedOk.parts {b : Int} (h : BedOk b) : (0 ≤ b ∧ b ≤ 499) ∧ ((b = 0 ∧ fct b = 0) ∨ (b ≠ 0 ∧ 1 ≤ fct b ∧ fct b ≤ 4)) := by
  rcases h with rfl | h
  · exact ⟨⟨by decide, by decide⟩, .inl ⟨rfl, by decide⟩⟩
  · unfold isBedB at h
    simp only [Bool.or_eq_true, Bool.and_eq_true, beq_iff_eq] at h
    rcases h with (rfl | rfl) | ⟨h, h'⟩
    · exact ⟨⟨by decide, by decide⟩, .inr (by decide)⟩
    · exact ⟨⟨by decide, by decide⟩, .inr (by decide)⟩
    · rw [ins_one] at h h'
      have hm := Int.mul_tdiv_add_tmod b 100
      have h1 : 1 ≤ b.tdiv 100 ∧ b.tdiv 100 ≤ 4 := h
      have h2 : 1 ≤ b.tmod 100 ∧ b.tmod 100 ≤ 20 := h'
      exact ⟨⟨by omega, by omega⟩, .inr ⟨by omega, h⟩⟩
theorem BedOk.wrt {b : Int} (h : BedOk b) : 0 ≤ wrt b ∧ wrt b ≤ 400 ∧ wrt b = b / 100 * (b % 100) ∧ fct b = b / 100 := by
  obtain ⟨⟨h1, h2⟩, h3⟩ := h.parts
  have e1 : fct b = b / 100 := by unfold fct; rw [Int.tdiv_eq_ediv_of_nonneg h1]
  have e2 : nmb b = b % 100 := by unfold nmb; rw [Int.tmod_eq_emod_of_nonneg h1]
  have e3 : Proofs.Ytmopadnkjlodnaa.wrt b = b / 100 * (b % 100) := by unfold Proofs.Ytmopadnkjlodnaa.wrt; rw [e1, e2]
  have h4 : 0 ≤ b / 100 ∧ b / 100 ≤ 4 := by omega
  have h5 : 0 ≤ b % 100 ∧ b % 100 ≤ 99 := by omega
  refine ⟨?_, ?_, e3, e1⟩
  · rw [e3]; exact Int.mul_nonneg h4.1 h5.1
  · rw [e3]
    have := Int.mul_le_mul h4.2 h5.2 h5.1 (by decide)
    omega
theorem night_worth (b : Int) (hb : BedOk b) (w : World) : Calls Try.prog 72 #[.int .i64 b] w fun e w' => e = .returned (.int .i64 (wrt b)) ∧ Ext w w' := by
  obtain ⟨⟨h1, h2⟩, -⟩ := hb.parts
  have hw := hb.wrt
  have HW := Lib.hid hw
  obtain ⟨m, rfl⟩ : ∃ m : Nat, b = (m : Int) := ⟨b.toNat, by omega⟩
  clear hw hb
  go_enter Try.func72, Try.ntmps72
  go_wp2
  go_ret
  refine ⟨ret_int ?_, Ext.refl w⟩
  have h3 := HW.out
  rw [h3.2.2.1]
  have hx : I64 ((m : Int) / 100 * ((m : Int) % 100)) := by
    rw [← h3.2.2.1]
    exact ⟨by omega, by omega⟩
  first
    | exact wrap64_in' hx
    | (simp; exact wrap64_in' hx)
/-- Whether a dart opens a gate, in the statement's words. -/
theorem night_opens (g b : Int) (hg : 0 ≤ g ∧ g ≤ 2) (hb : BedOk b) (w : World) : Calls Try.prog 73 #[.int .i64 g, .int .i64 b] w fun e w' => e = .returned (.bool (opn g b)) ∧ Ext w w' := by
  obtain ⟨⟨h1, h2⟩, h3⟩ := hb.parts
  have e1 := hb.wrt.2.2.2
  obtain ⟨m, rfl⟩ : ∃ m : Nat, b = (m : Int) := ⟨b.toNat, by omega⟩
  rw [e1] at h3
  obtain ⟨r, hr⟩ : ∃ r, opn g m = r := ⟨_, rfl⟩
  rw [hr]
  have HR := Lib.hid hr
  have HE := Lib.hid e1
  clear hr e1 hb
  obtain rfl | rfl | rfl : g = 0 ∨ g = 1 ∨ g = 2 := by omega
  all_goals
    rcases h3 with ⟨h0, hf⟩ | ⟨h0, hf⟩
    · obtain rfl : r = false := by rw [← HR.out, h0]; decide
      rw [h0]
      go_enter Try.func73, Try.ntmps73
      go_wp2
      go_ret
      exact ⟨rfl, Ext.refl w⟩
  · obtain rfl : r = true := by rw [← HR.out]; unfold opn; rw [if_neg (by decide), if_neg (by decide), HE.out]; exact decide_eq_true hf.1
    have h0' : ((m : Int) != 0) = true := by simpa using h0
    clear HR HE hf h0
    go_enter Try.func73, Try.ntmps73
    go_wp2
    go_ret
    exact ⟨rfl, Ext.refl w⟩
  · have h0' : ((m : Int) != 0) = true := by simpa using h0
    obtain rfl : r = ((m : Int) / 100 == 2) := by rw [← HR.out]; unfold opn; rw [if_pos rfl, HE.out]
    clear HR HE hf h0
    go_enter Try.func73, Try.ntmps73
    cases hq : ((m : Int) / 100 == 2)
    · go_wp2
      go_ret
      exact ⟨rfl, Ext.refl w⟩
    · go_wp2
      go_ret
      exact ⟨rfl, Ext.refl w⟩
  · have h0' : ((m : Int) != 0) = true := by simpa using h0
    obtain rfl : r = decide (2 ≤ (m : Int) / 100) := by rw [← HR.out]; unfold opn; rw [if_neg (by decide), if_pos rfl, HE.out]
    clear HR HE hf h0
    go_enter Try.func73, Try.ntmps73
    cases hq : ((m : Int) / 100 == 2)
    · have hq' : ¬ (m : Int) / 100 = 2 := by simpa using hq
      by_cases hp : 2 < (m : Int) / 100
      · rw [decide_eq_true (by omega)]
        go_wp2
        go_ret
        exact ⟨rfl, Ext.refl w⟩
      · rw [decide_eq_false (by omega)]
        go_wp2
        go_ret
        exact ⟨rfl, Ext.refl w⟩
    · have hq' : (m : Int) / 100 = 2 := by simpa using hq
      rw [decide_eq_true (by omega)]
      clear hq'
      go_wp2
      go_ret
      exact ⟨rfl, Ext.refl w⟩
set_option maxRecDepth 100000 in
set_option maxHeartbeats 4000000 in
theorem night_count (n : Nt) (ba sa ha : Option Addr) (bc sc hc : Nat) (i : Nat) (w : World) (hA : NtA n ba sa ha w) :
    Calls Try.prog 36 #[.agg (n.cells ba sa ha bc sc hc), .int .i64 i] w fun e w' => ∃ start gin gout, e = .returned (.agg #[.int .i64 start, .int .i64 gin, .int .i64 gout]) ∧ (2 ≤ start ∧ start ≤ 512) ∧ (0 ≤ gin ∧ gin ≤ 2) ∧ (0 ≤ gout ∧ gout ≤ 2) ∧ Ext w w' := by
  have HA := Lib.hid hA
  clear hA
  unfold Nt.cells
  have hgb := HA.out.ig
  obtain ⟨g, hg⟩ : ∃ g : Nat, n.gates = (g : Int) := ⟨n.gates.toNat, by omega⟩
  rw [hg] at hgb ⊢
  clear hg
  go_enter Try.func36, Try.ntmps36
  go_upto_region 1 with fail
  generalize hw1 : World.alloc (World.alloc w _) _ = w1
  obtain ⟨k2, hk2⟩ : ∃ y, y = w.heap.size := ⟨_, rfl⟩
  rw [← hk2]
  have HB2 : Hid (Blk w1 k2 #[.slice ba n.beds.length bc, .slice sa n.starts.length sc, .int .u8 g, .slice ha n.hits.length hc]) := Lib.hid (by rw [← hw1, hk2]; exact (Blk.new _ _ _).alloc _)
  have HB4 : Hid (Blk w1 (k2 + 1) #[.int .i64 0, .int .i64 0, .int .i64 0]) := Lib.hid (by rw [← hw1]; exact Blk.at _ (by simp [hk2]))
  have HX1 : Hid (Ext w w1) := Lib.hid (by rw [← hw1]; exact ((Ext.refl w).alloc _).alloc _)
  have HK2 := Lib.hid hk2
  clear hw1 hk2
  have e2 := HB2.out.cell 2 (v := .int .u8 g) rfl
  have el := HB2.out.lt
  go_upto_region 2 with fail
  obtain ⟨k5, hk5⟩ : ∃ y, y = w1.heap.size := ⟨_, rfl⟩
  rw [← hk5]
  generalize hw2 : World.alloc w1 _ = w2
  have HB5 : Hid (Blk w2 k5 #[.int .i64 2, .int .i64 ((g : Int) % 3), .int .i64 ((g : Int) / 3 % 3)]) := Lib.hid (by rw [← hw2, hk5]; exact Blk.new _ _ _)
  have HX12 : Hid (Ext w1 w2) := Lib.hid (by rw [← hw2]; exact (Ext.refl _).alloc _)
  have HK5 := Lib.hid hk5
  clear hw2 hk5 e2 el
  have HLT : Hid (k2 = w.heap.size ∧ k2 + 1 < w1.heap.size ∧ k5 = w1.heap.size) := Lib.hid ⟨HK2.out, HB4.out.lt, HK5.out⟩
  have HX2 := Lib.hid (HX1.out.trans HX12.out)
  have e1 := (HB2.out.ext HX12.out).cell 1 (v := .slice sa n.starts.length sc) rfl
  have el := (HB2.out.ext HX12.out).lt
  have HLN := Lib.hid HA.out.ls
  have hgi : 0 ≤ (g : Int) % 3 ∧ (g : Int) % 3 ≤ 2 := by omega
  have hgo : 0 ≤ (g : Int) / 3 % 3 ∧ (g : Int) / 3 % 3 ≤ 2 := by omega
  have HGI := Lib.hid (And.intro hgi hgo)
  obtain ⟨gi, hgie⟩ : ∃ y, (g : Int) % 3 = y := ⟨_, rfl⟩
  obtain ⟨go, hgoe⟩ : ∃ y, (g : Int) / 3 % 3 = y := ⟨_, rfl⟩
  rw [hgie, hgoe] at HB5 HGI
  rw [hgie, hgoe]
  clear hgi hgo hgie hgoe
  by_cases hlt : i < n.starts.length
  · obtain ⟨bb, oo, rfl, hcl⟩ := HA.out.starts i hlt
    have hbnd := HA.out.is_ _ (List.getElem_mem hlt)
    obtain ⟨x, hxe⟩ : ∃ x : Int, n.starts[i] = x := ⟨_, rfl⟩
    rw [hxe] at hcl hbnd
    obtain ⟨m, rfl⟩ : ∃ m : Nat, x = (m : Int) := ⟨x.toNat, by omega⟩
    have hcl' := HX2.out.cell hcl
    have hcb : bb < w.heap.size := by have h := lt_of_cell hcl; simpa using h
    have HCL := Lib.hid hcl'
    have HCB := Lib.hid hcb
    clear hxe hcl hcl' hcb
    go_upto_region 3 with fail
    have m1 : ∀ y : Lat (fun b _ => b = k5) w2, y.world.cell? ⟨k2, 1, none⟩ = some (.slice (some ⟨bb, oo, none⟩) n.starts.length sc) := fun y => ((HB2.out.ext HX12.out).chg y.chg (by have h := HLT.out; rintro ⟨_, e⟩; omega)).cell 1 rfl
    have z0 : ∀ y : Lat (fun b _ => b = k5) w2, y.world.cell? ⟨bb, oo + i, none⟩ = some (.int .u8 m) := fun y => y.chg.cell HCL.out (by have h := HLT.out; have h2 := HCB.out; rintro ⟨_, e⟩; simp only at e; omega)
    have zl : bb < w2.heap.size := by have h := HCB.out; have h2 := HX2.out.size; omega
    have hst : 2 + 2 * (m : Int) ≤ 512 := by omega
    refine wp_region_lat (by kernel_rfl) (fun b _ => b = k5) (fun k => (k == 1) || ((k == 11))) (RsIs [(1, .int .i64 2)]) (fun L _ W => Blk W k5 (bif L 11 then #[.int .i64 (2 + 2 * m), .int .i64 gi, .int .i64 go] else #[.int .i64 2, .int .i64 gi, .int .i64 go])) (by kernel_rfl)
      (fun k hk => by
        simp only [Bool.or_eq_true, beq_iff_eq] at hk
        rcases hk with rfl | rfl <;> decide)
      (fun L L' u w' h hg => by first | (rw [h 11 (by rfl)]; exact hg) | exact hg) (fun L u a b h hx => h.ext hx) (rsW [(1, .int .i64 2)]) (fun k _ => rsW_ok _ k) (HB5.out.ext (Ext.refl w2).drew) ?_
    intro T hT hne2 u hu
    have e_1 : u 1 = .int .i64 2 := hu 1 rfl
    refine lx_next 1 (by rfl) (by decide) ?_
    dsimp only [List.take, List.drop]
    repeat (go_big_quiet_step (fail))
    refine wpQuiet_nil ?_
    refine lx_loud (by rfl) (by kernel_rfl) ?_ (fun K hK => ?_)
    · intro L w4 hL hd hcl hC hs
      obtain ⟨y, rfl⟩ := hC
      have d11 := hcl.off hL 40 11 (by kernel_rfl)
      rw [d11] at hs
      have hs : Blk y.world k5 #[.int .i64 2, .int .i64 gi, .int .i64 go] := hs
      have r0 := hs.cell 0 (v := .int .i64 2) rfl
      have rl := hs.lt
      have HS := Lib.hid hs
      have D11 := Lib.hid d11
      have HLL := Lib.hid hL
      clear hs hd hcl hL d11
      go_wp2
      exact ⟨rfl, ⟨y, rfl⟩, by first | (rw [show upd L 1 11 = L 11 from rfl, D11.out]; exact HS.out) | exact HS.out⟩
    rw [e_1]
    go_simp
    with_reducible refine hK _ ?_
    clear hK K
    refine lx_next 9 (by rfl) (by decide) ?_
    dsimp only [List.take, List.drop]
    repeat (go_big_quiet_step (fail))
    refine wpQuiet_nil ?_
    refine lx_loud (by rfl) (by kernel_rfl) ?_ (fun K hK => ?_)
    · intro L w4 hL hd hcl hC hs
      obtain ⟨y, rfl⟩ := hC
      rw [hL] at hs
      have hs : Blk y.world k5 #[.int .i64 2, .int .i64 gi, .int .i64 go] := hs
      have r0 := hs.cell 0 (v := .int .i64 2) rfl
      have rf0 := hs.frozen 0
      have rl := hs.lt
      have HS := Lib.hid hs
      have HLL := Lib.hid hL
      clear hs hd hcl hL
      go_wp2
      have hb0 : Blk _ k5 #[.int .i64 (2 + 2 * m), .int .i64 gi, .int .i64 go] := HS.out.set 0 (.int .i64 (2 + 2 * m))
      exact ⟨trivial, ⟨y.chgd ((Chg.refl (· = k5) y.world).setCell (.inr rfl) (.int .i64 (2 + 2 * m))) (fun b hb => .inr fun _ => hb), rfl⟩, by first | (rw [show upd L 11 11 = true from rfl]; exact hb0) | exact hb0⟩
    go_simp
    with_reducible refine hK _ ?_
    clear hK K
    refine lx_nil ?_
    intro y hs
    have HB6 : Hid (Blk y.world k5 #[.int .i64 (2 + 2 * m), .int .i64 gi, .int .i64 go]) := Lib.hid hs
    have HCw6 : Hid (Chg (· = k5) w2 y.world) := Lib.hid (y.chg.mono (by rintro q - ⟨_, e⟩; exact e))
    clear hs hu hT hne2 e_1 m1 z0 zl e1 el
    generalize y.world = w6 at *
    clear y
    have HX6 : Hid (Ext w1 w6) := Lib.hid (Chg.to_ext HX12.out HCw6.out (fun i h => by have := HLT.out; have h' : i = k5 := h; omega))
    have HST : Hid (2 ≤ 2 + 2 * (m : Int) ∧ 2 + 2 * (m : Int) ≤ 512) := Lib.hid ⟨by omega, hst⟩
    obtain ⟨st, hste⟩ : ∃ y, 2 + 2 * (m : Int) = y := ⟨_, rfl⟩
    rw [hste] at HB6 HST
    clear hste hst
    have d0 := HB6.out.cell 0 (v := .int .i64 st) rfl
    have d1 := HB6.out.cell 1 (v := .int .i64 gi) rfl
    have d2 := HB6.out.cell 2 (v := .int .i64 go) rfl
    have dl := HB6.out.lt
    have z0 := (HB4.out.ext HX6.out).cell 0 (v := .int .i64 0) rfl
    have z1 := (HB4.out.ext HX6.out).cell 1 (v := .int .i64 0) rfl
    have z2 := (HB4.out.ext HX6.out).cell 2 (v := .int .i64 0) rfl
    have f0 := (HB4.out.ext HX6.out).frozen 0
    have f1 := (HB4.out.ext HX6.out).frozen 1
    have f2 := (HB4.out.ext HX6.out).frozen 2
    have zl := (HB4.out.ext HX6.out).lt
    go_wp2
    have hs := three_set (HB4.out.ext HX6.out) (.int .i64 st) (.int .i64 gi) (.int .i64 go)
    have hcc := three_chg (· = k2 + 1) w6 (b := k2 + 1) rfl (.int .i64 st) (.int .i64 gi) (.int .i64 go)
    generalize hW : World.setCell _ _ _ = W at *
    have y0 := hs.cell 0 (v := .int .i64 st) rfl
    have y1 := hs.cell 1 (v := .int .i64 gi) rfl
    have y2 := hs.cell 2 (v := .int .i64 go) rfl
    refine bodyPost_ret (v := .agg #[.int .i64 st, .int .i64 gi, .int .i64 go]) (by simp [results, Try.results36, go_sem, y0, y1, y2]) rfl ⟨st, gi, go, rfl, HST.out, HGI.out.1, HGI.out.2, Chg.to_ext (HX1.out.trans HX6.out) hcc (fun i h => by have := HLT.out; have h' : i = k2 + 1 := h; omega)⟩
  · go_upto_region 4 with fail
    obtain ⟨st, hste⟩ : ∃ y, (2 : Int) = y := ⟨_, rfl⟩
    have HST : Hid (2 ≤ st ∧ st ≤ 512) := Lib.hid (by omega)
    have HB6 : Hid (Blk w2 k5 #[.int .i64 st, .int .i64 gi, .int .i64 go]) := Lib.hid (by rw [← hste]; exact HB5.out)
    have HX6 := Lib.hid HX12.out
    obtain ⟨w6, rfl⟩ : ∃ x, x = w2 := ⟨_, rfl⟩
    clear hste e1 el
    have d0 := HB6.out.cell 0 (v := .int .i64 st) rfl
    have d1 := HB6.out.cell 1 (v := .int .i64 gi) rfl
    have d2 := HB6.out.cell 2 (v := .int .i64 go) rfl
    have dl := HB6.out.lt
    have z0 := (HB4.out.ext HX6.out).cell 0 (v := .int .i64 0) rfl
    have z1 := (HB4.out.ext HX6.out).cell 1 (v := .int .i64 0) rfl
    have z2 := (HB4.out.ext HX6.out).cell 2 (v := .int .i64 0) rfl
    have f0 := (HB4.out.ext HX6.out).frozen 0
    have f1 := (HB4.out.ext HX6.out).frozen 1
    have f2 := (HB4.out.ext HX6.out).frozen 2
    have zl := (HB4.out.ext HX6.out).lt
    go_wp2
    have hs := three_set (HB4.out.ext HX6.out) (.int .i64 st) (.int .i64 gi) (.int .i64 go)
    have hcc := three_chg (· = k2 + 1) w6 (b := k2 + 1) rfl (.int .i64 st) (.int .i64 gi) (.int .i64 go)
    generalize hW : World.setCell _ _ _ = W at *
    have y0 := hs.cell 0 (v := .int .i64 st) rfl
    have y1 := hs.cell 1 (v := .int .i64 gi) rfl
    have y2 := hs.cell 2 (v := .int .i64 go) rfl
    refine bodyPost_ret (v := .agg #[.int .i64 st, .int .i64 gi, .int .i64 go]) (by simp [results, Try.results36, go_sem, y0, y1, y2]) rfl ⟨st, gi, go, rfl, HST.out, HGI.out.1, HGI.out.2, Chg.to_ext (HX1.out.trans HX6.out) hcc (fun i h => by have := HLT.out; have h' : i = k2 + 1 := h; omega)⟩
end Go.Proofs.Ytmopadnkjlodnaa
