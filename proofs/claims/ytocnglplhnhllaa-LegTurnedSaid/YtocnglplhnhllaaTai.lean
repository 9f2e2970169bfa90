/-
  Chapter 3, a hand: Hand.rules.
-/
import Derived.Test.YtocnglplhnhllaaTah
import Derived.Test.YtocnglplhnhllaaSep
namespace Go.Proofs.Ytocnglplhnhllaa
open Go.RowKit Go.BigFrame
attribute [local go_sem] Later.cell Later.frozen Lat.cell Lat.frozen
def Hnd.count (h : Hnd) (s : Int) : Cnt := ⟨2 + s % 300, h.gates % 3, h.gates / 3 % 3⟩
def Hnd.counts (h : Hnd) : List Cnt := (h.starts.take 5).map h.count
def Hnd.rul (h : Hnd) : Rul := ⟨h.counts, if 0 < h.counts.length then h.first % (h.counts.length : Int) else 0, h.rounds % 20, h.equal⟩
theorem Hnd.counts_length (h : Hnd) : h.counts.length = min 5 h.starts.length := by simp [Hnd.counts]
theorem counts_next (h : Hnd) (k : Nat) (h1 : k < h.starts.length) (h2 : k < 5) : h.counts.take (k + 1) = h.counts.take k ++ [h.count h.starts[k]] := by
  have hk : k < h.counts.length := by rw [Hnd.counts_length]; omega
  rw [List.take_succ_eq_append_getElem hk]
  simp [Hnd.counts]
set_option maxRecDepth 100000 in
set_option maxHeartbeats 1000000 in
theorem hand_rules (H : Hnd) (sa ba : Option Addr) (sc bc : Nat) (hf : H.fits) (w : World) (hS : CellsAt w .u16 sa H.starts) : Calls Try.prog 33 #[.agg (H.cells sa ba sc bc)] w (RulP w H.rul) := by
  have HS := Lib.hid hS
  have HST := Lib.hid hf.starts
  have hsl := hf.sl
  obtain ⟨hg0, hg1⟩ := hf.gates
  obtain ⟨hr0, hr1⟩ := hf.rounds
  obtain ⟨hf0, hf1⟩ := hf.first
  have hcl := H.counts_length
  have HCL := Lib.hid hcl
  obtain ⟨cs, hcs⟩ : ∃ cs, H.counts = cs := ⟨_, rfl⟩
  have hnx := counts_next H
  rw [hcs] at hcl hnx
  have HCS := Lib.hid hcs
  have HNX := Lib.hid hnx
  have HCN := Lib.hid hcl
  have hcn5 : cs.length ≤ 5 := by omega
  obtain ⟨fi, hfi⟩ : ∃ fi, (if 0 < cs.length then H.first % (cs.length : Int) else 0) = fi := ⟨_, rfl⟩
  have hrul : H.rul = ⟨cs, fi, H.rounds % 20, H.equal⟩ := by rw [← hfi, ← hcs]; rfl
  have HFI := Lib.hid hfi
  rw [hrul]
  clear hf hS hcl hcs hnx hrul HCL hfi
  unfold Hnd.cells
  go_enter Try.func33, Try.ntmps33
  go_wp2
  have hx0 : Ext w ((w.alloc (.cells #[.slice sa H.starts.length sc, .int .u8 H.gates, .bool H.equal, .int .u8 H.rounds, .int .u8 H.first, .slice ba H.beds.length bc] 78)).alloc (.cells #[.slice none 0 0, .int .i64 0, .int .i64 0, .bool false] 42)) := ((Ext.refl w).alloc _).alloc _
  have hb0 : Blk ((w.alloc (.cells #[.slice sa H.starts.length sc, .int .u8 H.gates, .bool H.equal, .int .u8 H.rounds, .int .u8 H.first, .slice ba H.beds.length bc] 78)).alloc (.cells #[.slice none 0 0, .int .i64 0, .int .i64 0, .bool false] 42)) w.heap.size #[.slice sa H.starts.length sc, .int .u8 H.gates, .bool H.equal, .int .u8 H.rounds, .int .u8 H.first, .slice ba H.beds.length bc] := (Blk.new w _ _).alloc _
  have hb1 : Blk ((w.alloc (.cells #[.slice sa H.starts.length sc, .int .u8 H.gates, .bool H.equal, .int .u8 H.rounds, .int .u8 H.first, .slice ba H.beds.length bc] 78)).alloc (.cells #[.slice none 0 0, .int .i64 0, .int .i64 0, .bool false] 42)) (w.heap.size + 1) #[.slice none 0 0, .int .i64 0, .int .i64 0, .bool false] := Blk.at _ (by simp)
  have hsz0 : ((w.alloc (.cells #[.slice sa H.starts.length sc, .int .u8 H.gates, .bool H.equal, .int .u8 H.rounds, .int .u8 H.first, .slice ba H.beds.length bc] 78)).alloc (.cells #[.slice none 0 0, .int .i64 0, .int .i64 0, .bool false] 42)).heap.size = w.heap.size + 2 := by simp
  generalize hW0 : World.alloc (World.alloc w _) _ = w0 at *
  have HX0 := Lib.hid hx0
  have HB0 := Lib.hid hb0
  have HB1 := Lib.hid hb1
  have HSZ0 := Lib.hid hsz0
  clear hx0 hb0 hb1 hsz0 hW0
  go_loopw [4] (fun i wr => ∃ (k : Nat) (lv : Value), k ≤ cs.length ∧ i = .int .i64 k ∧ Frm (w.heap.size + 2) [Res.blk (w.heap.size + 2) #[lv, .int .i64 0, .int .i64 (H.rounds % 20), .bool H.equal], Res.own (w.heap.size + 2) 24 3 lv k ((cs.take k).flatMap Cnt.cells), Res.none] wr ∧ Ext w0 wr) (fun i _ => cs.length - (intOf i).toNat)
  case atStart =>
    have h1 := (Frm.nones (w.heap.size + 2) 3 w0).set 0 (r := Res.none) (r' := Res.blk (w.heap.size + 2) #[.slice none 0 0, .int .i64 0, .int .i64 (H.rounds % 20), .bool H.equal]) rfl (((Ext.refl w0).alloc (.cells #[.slice none 0 0, .int .i64 0, .int .i64 (H.rounds % 20), .bool H.equal] 42)).chg _) (Blk.at _ HSZ0.out.symm) (fun k hk => .inr (by rw [show k = w.heap.size + 2 from hk]; have := HSZ0.out; simp; omega)) (by rw [HSZ0.out]; exact Nat.le_refl _)
    have h2 := h1.set 1 (r := Res.none) (r' := Res.own (w.heap.size + 2) 24 3 (.slice none 0 0) 0 []) rfl (Chg.refl _ _) (World.ownsRow_nil _ _ _ _) (fun k hk => by cases hk) (by have := HSZ0.out; simp; omega)
    exact ⟨0, _, Nat.zero_le _, rfl, h2, (Ext.refl w0).alloc _⟩
  case round =>
    obtain ⟨k, lv, hk, rfl, hF, hx⟩ := hrel
    have hsz := hx.size
    have hsz0 := HSZ0.out
    have hb0 := HB0.out.ext hx
    have c0 := hb0.cell 0 (v := .slice sa H.starts.length sc) rfl
    have c1 := hb0.cell 1 (v := .int .u8 H.gates) rfl
    have hl0 : w.heap.size < wr.heap.size := by omega
    obtain ⟨la, lc, rfl⟩ := own_shape (hF.get 1 rfl)
    have HF := Lib.hid hF
    clear hb0 hF
    by_cases hlt : k < cs.length
    · have h1 : k < H.starts.length := by have := HCN.out; omega
      have h2 : k < 5 := by omega
      obtain ⟨b, o, hsa, p0⟩ := HS.out k h1
      subst hsa
      have hbl := lt_of_cell p0
      simp only at hbl
      replace p0 := (HX0.out.trans hx).cell p0
      have hbl2 : b < wr.heap.size := by omega
      have hnb : ¬ (w.heap.size + 2 ≤ b) := by omega
      obtain ⟨y0, y1⟩ := HST.out _ (List.getElem_mem h1)
      have hnx := HNX.out k h1 h2
      have HNK := Lib.hid hnx
      clear hnx
      generalize H.starts[k] = y at *
      have hlo : w.heap.size + 2 ≤ wr.heap.size := by omega
      have HLO := Lib.hid hlo
      go_wp2
      refine wp_region_sep (by kernel_rfl) [.no, .val (.slice la k lc), .no, .no, .no, .no, .no, .no, .no, .no, .no, .no, .no, .no, .no, .no, .no, .no, .no, .no, .box 1, .app (k + 1), .no, .any] (w.heap.size + 2)
        (fun L u => [Res.blk (w.heap.size + 2) #[bif L 23 then u 21 else .slice la k lc, .int .i64 0, .int .i64 (H.rounds % 20), .bool H.equal],
          bif L 21 then Res.own (w.heap.size + 2) 24 3 (u 21) (k + 1) ((cs.take k).flatMap Cnt.cells ++ [.int .i64 (2 + y % 300), .int .i64 (H.gates % 3), .int .i64 (H.gates / 3 % 3)]) else Res.own (w.heap.size + 2) 24 3 (.slice la k lc) k ((cs.take k).flatMap Cnt.cells),
          bif L 20 then Res.own (w.heap.size + 2) 24 3 (u 20) 1 [.int .i64 (2 + y % 300), .int .i64 (H.gates % 3), .int .i64 (H.gates / 3 % 3)] else Res.none])
        (by kernel_rfl) (Nat.le_of_ble_eq_true rfl) (fun L L' u hh => by simp only [hh 23 rfl, hh 21 rfl, hh 20 rfl]) (fun _ => HF.out) ?_
      intro T hT hne u hu
      have u1 : u 1 = .slice la k lc := hu 1 rfl
      obtain ⟨k20, u20⟩ : ∃ k, u 20 = .slice (some ⟨k, 0, none⟩) 1 1 := hu 20 rfl
      obtain ⟨a21, c21, u21⟩ : ∃ a c, u 21 = .slice a (k + 1) c := hu 21 rfl
      clear hu
      refine lx_next 1 (by rfl) (by decide) ?_
      dsimp only [List.take, List.drop]
      repeat (go_big_quiet_step (fail))
      refine wpQuiet_nil ?_
      refine lx_loud (by rfl) (by kernel_rfl) ?_ (fun K hK => ?_)
      · intro L w3 hL hd hcl hC hs
        obtain ⟨x, rfl⟩ := hC
        have hzs := x.size
        have h23 := hcl.off hL 40 23 (by kernel_rfl)
        simp only [h23, cond_false] at hs
        have hcc := (hs.get 0 rfl).cell 0 (v := .slice la k lc) rfl
        have hlt := (hs.get 0 rfl).lt
        go_wp2
        exact aft_same x rfl hs (by first | (simp [upd, updv, h23]; done) | (simp [upd, updv, h23, hL]; rfl))
      rw [u1]
      go_simp
      with_reducible refine hK _ ?_
      clear hK K
      refine lx_next 18 (by rfl) (by decide) ?_
      dsimp only [List.take, List.drop]
      repeat (go_big_quiet_step (fail))
      refine wpQuiet_nil ?_
      refine lx_loud (by rfl) (by kernel_rfl) ?_ (fun K hK => ?_)
      · intro L w3 hL hd hcl hC hs
        obtain ⟨x, rfl⟩ := hC
        have hzs := x.size
        have h21 := hcl.off hL 40 21 (by kernel_rfl)
        have h23 := hcl.off hL 40 23 (by kernel_rfl)
        simp only [hL, h21, h23, cond_false] at hs
        go_wp2
        exact aft_set x hlo ⟨_, rfl⟩ hs 2 (r' := Res.own (w.heap.size + 2) 24 3 (.slice (some ⟨x.world.heap.size, 0, none⟩) 1 1) 1 [.int .i64 (2 + y % 300), .int .i64 (H.gates % 3), .int .i64 (H.gates / 3 % 3)]) rfl (((Ext.refl x.world).alloc _).chg _) (own_box (by omega) (by decide) rfl) (fun k hk => .inr (by rw [← own_blk hk]; simp)) (by first | (simp [upd, updv, h21, h23, hL]; done) | (simp [upd, updv, h21, h23, hL]; rfl))
      rw [u20]
      go_simp
      with_reducible refine hK _ ?_
      clear hK K
      refine lx_loud (by rfl) (by kernel_rfl) ?_ (fun K hK => ?_)
      · intro L w3 hL hd hcl hC hs
        obtain ⟨x, rfl⟩ := hC
        have hzs := x.size
        have h23 := hcl.off hL 40 23 (by kernel_rfl)
        have h20 := hd 20 (by kernel_rfl)
        simp only [hL, h23, h20, cond_true, cond_false] at hs
        rw [u20] at hs
        refine wp_append_sep rfl _ _ 40 24 _ 3 _ rfl info_cnt (by kernel_rfl) rfl (by decide) (w.heap.size + 2) _ _ _ rfl (hs.get 1 rfl) (w.heap.size + 2) k20 1 1 _ rfl (hs.get 2 rfl) (cnt_one [⟨2 + y % 300, H.gates % 3, H.gates / 3 % 3⟩]) (by omega) (by decide) (by omega) ?_
        intro v' w4 ho4 hC4 hn4
        obtain ⟨av, ac, rfl⟩ := own_shape ho4
        go_wp2
        exact aft_set x hlo ⟨_, _, rfl⟩ hs 1 rfl hC4 (r' := Res.own (w.heap.size + 2) 24 3 (.slice av _ ac) _ _) ho4 hn4 (by first | (simp [upd, updv, h23, h20, hL, u20]; done) | (simp [upd, updv, h23, h20, hL, u20]; rfl))
      rw [u21]
      go_simp
      with_reducible refine hK _ ?_
      clear hK K
      refine lx_next 1 (by rfl) (by decide) ?_
      dsimp only [List.take, List.drop]
      repeat (go_big_quiet_step (fail))
      refine wpQuiet_nil ?_
      refine lx_loud (by rfl) (by kernel_rfl) ?_ (fun K hK => ?_)
      · intro L w3 hL hd hcl hC hs
        obtain ⟨x, rfl⟩ := hC
        have hzs := x.size
        have h21 := hd 21 (by kernel_rfl)
        simp only [hL, h21, cond_true, cond_false] at hs
        have f0 := (hs.get 0 rfl).frozen 0
        have hlt := (hs.get 0 rfl).lt
        have hcc := (hs.get 0 rfl).cell 0 rfl
        go_wp2
        exact aft_store x hlo trivial hs 0 rfl (by first | (simp [upd, updv, h21, hL, u21]; done) | (simp [upd, updv, h21, hL, u21]; rfl))
      go_simp
      with_reducible refine hK _ ?_
      clear hK K
      refine lx_nil ?_
      intro x hs
      have hX : Ext w0 x.world := Chg.to_ext hx x.chg (by rintro i ⟨_, h⟩; exact HSZ0.out ▸ h)
      rw [u21] at hs
      have hs2 := hs.drop 2
      have hfl : (cs.take (k + 1)).flatMap Cnt.cells = (cs.take k).flatMap Cnt.cells ++ [.int .i64 (2 + y % 300), .int .i64 (H.gates % 3), .int .i64 (H.gates / 3 % 3)] := by rw [HNK.out, List.flatMap_append]; rfl
      have hs3 : Frm (w.heap.size + 2) [Res.blk (w.heap.size + 2) #[.slice a21 (k + 1) c21, .int .i64 0, .int .i64 (H.rounds % 20), .bool H.equal], Res.own (w.heap.size + 2) 24 3 (.slice a21 (k + 1) c21) (k + 1) ((cs.take (k + 1)).flatMap Cnt.cells), Res.none] x.world := by rw [hfl]; exact hs2
      have HS3 := Lib.hid hs3
      have HXX := Lib.hid hX
      clear hs hs2 hs3 hX hT hne hfl
      generalize x.world = wx at *
      clear p0 c0 c1
      go_wp2
      go_roundw
      case rel => exact ⟨k + 1, _, by omega, by go_num, HS3.out, HXX.out⟩
      case measure => simp [intOf]; omega
    · obtain rfl : k = cs.length := by omega
      by_cases h5 : cs.length < H.starts.length
      · have h5' : ¬ cs.length < 5 := by have := HCN.out; omega
        have hs := HF.out
        rw [List.take_length] at hs
        have ho := hs.get 1 rfl
        have hol := hs.lt 1 rfl
        have hne := hs.parts 1 0 _ _ rfl rfl (by decide)
        have hb1 := hs.get 0 rfl
        have hT := HB1.out.ext hx
        have hfi : H.first % (cs.length : Int) = fi := by have := HFI.out; rwa [if_pos (by omega)] at this
        have HS2 := Lib.hid ho
        have HOL := Lib.hid hol
        have HNE := Lib.hid hne
        have HB2 := Lib.hid hb1
        have HT2 := Lib.hid hT
        have d0 := hb1.cell 0 (v := .slice la cs.length lc) rfl
        have d1 := hb1.cell 1 (v := .int .i64 0) rfl
        have d2 := hb1.cell 2 (v := .int .i64 (H.rounds % 20)) rfl
        have d3 := hb1.cell 3 (v := .bool H.equal) rfl
        have g1 := hb1.frozen 1
        have hl1 := hb1.lt
        have e0 := hT.cell 0 (v := .slice none 0 0) rfl
        have e1 := hT.cell 1 (v := .int .i64 0) rfl
        have e2 := hT.cell 2 (v := .int .i64 0) rfl
        have e3 := hT.cell 3 (v := .bool false) rfl
        have f0 := hT.frozen 0
        have f1 := hT.frozen 1
        have f2 := hT.frozen 2
        have f3 := hT.frozen 3
        have hl2 := hT.lt
        have c4 := (HB0.out.ext hx).cell 4 (v := .int .u8 H.first) rfl
        clear hs ho hol hne hb1 hT
        go_wp2
        generalize hW : World.setCell _ _ _ = W
        have hB := four_set (HT2.out.other (a := ⟨w.heap.size + 1 + 1, 1, none⟩) (by show _ ≠ _; simp) (.int .i64 fi)) (.slice la cs.length lc) (.int .i64 fi) (.int .i64 (H.rounds % 20)) (.bool H.equal)
        have hchg := (Chg.setCell (S := fun k => k = w.heap.size + 1 ∨ k = w.heap.size + 2) (Chg.refl _ wr) (p := ⟨w.heap.size + 1 + 1, 1, none⟩) (.inr (.inr rfl)) (.int .i64 fi)).trans (four_chg (fun k => k = w.heap.size + 1 ∨ k = w.heap.size + 2) _ (b := w.heap.size + 1) (.inl rfl) (.slice la cs.length lc) (.int .i64 fi) (.int .i64 (H.rounds % 20)) (.bool H.equal))
        rw [hW] at hB hchg
        have q0 := hB.cell 0 (v := .slice la cs.length lc) rfl
        have q1 := hB.cell 1 (v := .int .i64 fi) rfl
        have q2 := hB.cell 2 (v := .int .i64 (H.rounds % 20)) rfl
        have q3 := hB.cell 3 (v := .bool H.equal) rfl
        refine bodyPost_ret (v := .agg #[.slice la cs.length lc, .int .i64 fi, .int .i64 (H.rounds % 20), .bool H.equal]) (by simp [results, Try.results33, go_sem, q0, q1, q2, q3]) rfl ?_
        have hO := own_chg HS2.out hchg (fun k hk hs => by
          rcases hs with rfl | rfl
          · have := (HOL.out _ hk).1; omega
          · exact HNE.out _ hk rfl)
        exact ⟨la, lc, rfl, own_mono hO (by omega), CntsAt.of_own hO, Chg.to_ext (HX0.out.trans hx) hchg (by rintro i (rfl | rfl) <;> omega)⟩
      · by_cases hpos : 0 < cs.length
        · have h5' := hpos
          have hs := HF.out
          rw [List.take_length] at hs
          have ho := hs.get 1 rfl
          have hol := hs.lt 1 rfl
          have hne := hs.parts 1 0 _ _ rfl rfl (by decide)
          have hb1 := hs.get 0 rfl
          have hT := HB1.out.ext hx
          have hfi : H.first % (cs.length : Int) = fi := by have := HFI.out; rwa [if_pos (by omega)] at this
          have HS2 := Lib.hid ho
          have HOL := Lib.hid hol
          have HNE := Lib.hid hne
          have HB2 := Lib.hid hb1
          have HT2 := Lib.hid hT
          have d0 := hb1.cell 0 (v := .slice la cs.length lc) rfl
          have d1 := hb1.cell 1 (v := .int .i64 0) rfl
          have d2 := hb1.cell 2 (v := .int .i64 (H.rounds % 20)) rfl
          have d3 := hb1.cell 3 (v := .bool H.equal) rfl
          have g1 := hb1.frozen 1
          have hl1 := hb1.lt
          have e0 := hT.cell 0 (v := .slice none 0 0) rfl
          have e1 := hT.cell 1 (v := .int .i64 0) rfl
          have e2 := hT.cell 2 (v := .int .i64 0) rfl
          have e3 := hT.cell 3 (v := .bool false) rfl
          have f0 := hT.frozen 0
          have f1 := hT.frozen 1
          have f2 := hT.frozen 2
          have f3 := hT.frozen 3
          have hl2 := hT.lt
          have c4 := (HB0.out.ext hx).cell 4 (v := .int .u8 H.first) rfl
          clear hs ho hol hne hb1 hT
          go_wp2
          generalize hW : World.setCell _ _ _ = W
          have hB := four_set (HT2.out.other (a := ⟨w.heap.size + 1 + 1, 1, none⟩) (by show _ ≠ _; simp) (.int .i64 fi)) (.slice la cs.length lc) (.int .i64 fi) (.int .i64 (H.rounds % 20)) (.bool H.equal)
          have hchg := (Chg.setCell (S := fun k => k = w.heap.size + 1 ∨ k = w.heap.size + 2) (Chg.refl _ wr) (p := ⟨w.heap.size + 1 + 1, 1, none⟩) (.inr (.inr rfl)) (.int .i64 fi)).trans (four_chg (fun k => k = w.heap.size + 1 ∨ k = w.heap.size + 2) _ (b := w.heap.size + 1) (.inl rfl) (.slice la cs.length lc) (.int .i64 fi) (.int .i64 (H.rounds % 20)) (.bool H.equal))
          rw [hW] at hB hchg
          have q0 := hB.cell 0 (v := .slice la cs.length lc) rfl
          have q1 := hB.cell 1 (v := .int .i64 fi) rfl
          have q2 := hB.cell 2 (v := .int .i64 (H.rounds % 20)) rfl
          have q3 := hB.cell 3 (v := .bool H.equal) rfl
          refine bodyPost_ret (v := .agg #[.slice la cs.length lc, .int .i64 fi, .int .i64 (H.rounds % 20), .bool H.equal]) (by simp [results, Try.results33, go_sem, q0, q1, q2, q3]) rfl ?_
          have hO := own_chg HS2.out hchg (fun k hk hs => by
            rcases hs with rfl | rfl
            · have := (HOL.out _ hk).1; omega
            · exact HNE.out _ hk rfl)
          exact ⟨la, lc, rfl, own_mono hO (by omega), CntsAt.of_own hO, Chg.to_ext (HX0.out.trans hx) hchg (by rintro i (rfl | rfl) <;> omega)⟩
        · have h5' := hpos
          have hs := HF.out
          rw [List.take_length] at hs
          have ho := hs.get 1 rfl
          have hol := hs.lt 1 rfl
          have hne := hs.parts 1 0 _ _ rfl rfl (by decide)
          have hb1 := hs.get 0 rfl
          have hT := HB1.out.ext hx
          have hfi : fi = 0 := by have := HFI.out; rw [if_neg (by omega)] at this; exact this.symm
          have HS2 := Lib.hid ho
          have HOL := Lib.hid hol
          have HNE := Lib.hid hne
          have HB2 := Lib.hid hb1
          have HT2 := Lib.hid hT
          have d0 := hb1.cell 0 (v := .slice la cs.length lc) rfl
          have d1 := hb1.cell 1 (v := .int .i64 0) rfl
          have d2 := hb1.cell 2 (v := .int .i64 (H.rounds % 20)) rfl
          have d3 := hb1.cell 3 (v := .bool H.equal) rfl
          have g1 := hb1.frozen 1
          have hl1 := hb1.lt
          have e0 := hT.cell 0 (v := .slice none 0 0) rfl
          have e1 := hT.cell 1 (v := .int .i64 0) rfl
          have e2 := hT.cell 2 (v := .int .i64 0) rfl
          have e3 := hT.cell 3 (v := .bool false) rfl
          have f0 := hT.frozen 0
          have f1 := hT.frozen 1
          have f2 := hT.frozen 2
          have f3 := hT.frozen 3
          have hl2 := hT.lt
          have c4 := (HB0.out.ext hx).cell 4 (v := .int .u8 H.first) rfl
          clear hs ho hol hne hb1 hT
          go_wp2
          generalize hW : World.setCell _ _ _ = W
          subst hfi
          have hB := four_set HT2.out (.slice la cs.length lc) (.int .i64 0) (.int .i64 (H.rounds % 20)) (.bool H.equal)
          have hchg := four_chg (fun k => k = w.heap.size + 1 ∨ k = w.heap.size + 2) wr (b := w.heap.size + 1) (.inl rfl) (.slice la cs.length lc) (.int .i64 0) (.int .i64 (H.rounds % 20)) (.bool H.equal)
          rw [hW] at hB hchg
          have q0 := hB.cell 0 (v := .slice la cs.length lc) rfl
          have q1 := hB.cell 1 (v := .int .i64 0) rfl
          have q2 := hB.cell 2 (v := .int .i64 (H.rounds % 20)) rfl
          have q3 := hB.cell 3 (v := .bool H.equal) rfl
          refine bodyPost_ret (v := .agg #[.slice la cs.length lc, .int .i64 0, .int .i64 (H.rounds % 20), .bool H.equal]) (by simp [results, Try.results33, go_sem, q0, q1, q2, q3]) rfl ?_
          have hO := own_chg HS2.out hchg (fun k hk hs => by
            rcases hs with rfl | rfl
            · have := (HOL.out _ hk).1; omega
            · exact HNE.out _ hk rfl)
          exact ⟨la, lc, rfl, own_mono hO (by omega), CntsAt.of_own hO, Chg.to_ext (HX0.out.trans hx) hchg (by rintro i (rfl | rfl) <;> omega)⟩
end Go.Proofs.Ytocnglplhnhllaa
