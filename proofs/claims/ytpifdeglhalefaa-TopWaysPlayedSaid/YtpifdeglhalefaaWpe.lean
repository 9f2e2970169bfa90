/-
  TopWaysPlayed: the walk.
-/
import Derived.Test.YtpifdeglhalefaaWpf
namespace Go.Proofs.Ytpifdeglhalefaa
open Go.RowKit Go.BigFrame
attribute [local go_sem] Later.cell Later.frozen Lat.cell Lat.frozen
def BdsV (bl : List Int) (v : Value) (s : Nat) (w : World) : Prop := w.ownsRow s 33 1 v bl.length (bl.map (Value.int .i64))
theorem BdsV.chg {bl : List Int} {v : Value} {s : Nat} {w w' : World} (h : BdsV bl v s w) {S : Nat → Prop} (hx : Chg S w w') (hS : ∀ k, S k → k < s) : BdsV bl v s w' := own_chg h hx (fun k hk hs => by have := hS k hs; have := (World.ownsRow.lt h k hk).1; omega)
theorem BdsV.cells {bl : List Int} {a : Option Addr} {n c : Nat} {s : Nat} {w : World} (h : BdsV bl (.slice a n c) s w) : CellsAt w .i64 a bl := fun i hi => by
  obtain ⟨a', c', e⟩ := own_shape h
  cases e
  obtain ⟨b, rfl, hb⟩ := own_cellsM h (by omega)
  exact ⟨b, 0, rfl, by simpa using hb i (.int .i64 bl[i]) (by simp [hi])⟩
theorem three_set {w : World} {b : Nat} {v0 v1 v2 : Value} (h : Blk w b #[v0, v1, v2]) (x0 x1 x2 : Value) : Blk (((w.setCell ⟨b, 0, none⟩ x0).setCell ⟨b, 1, none⟩ x1).setCell ⟨b, 2, none⟩ x2) b #[x0, x1, x2] := by
  have h0 : Blk _ b #[x0, v1, v2] := h.set 0 x0
  have h1 : Blk _ b #[x0, x1, v2] := h0.set 1 x1
  have h2 : Blk _ b #[x0, x1, x2] := h1.set 2 x2
  exact h2
theorem three_chg (S : Nat → Prop) (w : World) {b : Nat} (hb : S b) (x0 x1 x2 : Value) : Chg S w (((w.setCell ⟨b, 0, none⟩ x0).setCell ⟨b, 1, none⟩ x1).setCell ⟨b, 2, none⟩ x2) := (((Chg.refl S w).setCell (.inr hb) x0).setCell (.inr hb) x1).setCell (.inr hb) x2
/-- Ways in memory. -/
def WaysAt (W : World) (a : Option Addr) (ws : List (List Int)) : Prop := ∀ i (h : i < ws.length), ∃ gb qa qc, a = some ⟨gb, 0, none⟩ ∧ W.cell? ⟨gb, i, none⟩ = some (.slice qa ws[i].length qc) ∧ CellsAt W .i64 qa ws[i] ∧ ws[i].length ≤ qc ∧ qc ≤ maxLen
theorem WaysAt.ext {W W' : World} {a : Option Addr} {ws : List (List Int)} (h : WaysAt W a ws) (hx : Ext W W') : WaysAt W' a ws := fun i hi => let ⟨gb, qa, qc, h1, h2, h3, h4⟩ := h i hi; ⟨gb, qa, qc, h1, hx.cell h2, h3.ext hx, h4⟩
theorem CellsAt.pre {w : World} {a : Option Addr} {P : List Int} {b : Int} (h : CellsAt w .i64 a (P ++ [b])) : CellsAt w .i64 a P := fun i hi => by
  obtain ⟨b', o, e, hc⟩ := h i (by simp; omega)
  rw [List.getElem_append_left hi] at hc
  exact ⟨b', o, e, hc⟩
theorem CellsAt.fin {w : World} {b0 o0 : Nat} {P : List Int} {b : Int} (h : CellsAt w .i64 (some ⟨b0, o0, none⟩) (P ++ [b])) : w.cell? ⟨b0, o0 + P.length, none⟩ = some (.int .i64 b) := by
  obtain ⟨b', o, e, hc⟩ := h P.length (by simp)
  cases e
  simpa using hc
theorem CellsAt.head {w : World} {a : Option Addr} {x : Int} (h : CellsAt w .i64 a [x]) : ∃ b o, a = some ⟨b, o, none⟩ ∧ w.cell? ⟨b, o, none⟩ = some (.int .i64 x) := by
  obtain ⟨b, o, e, hc⟩ := h 0 (by simp)
  exact ⟨b, o, e, by simpa using hc⟩
theorem WysR.at_ {W : World} {base n c : Nat} {a : Option Addr} {ws : List (List Int)} (h : WysR W base (.slice a n c) ws) (i : Nat) (hi : i < ws.length) : ∃ gb qa qc, a = some ⟨gb, 0, none⟩ ∧ W.cell? ⟨gb, i, none⟩ = some (.slice qa ws[i].length qc) ∧ CellsAt W .i64 qa ws[i] ∧ ws[i].length ≤ qc ∧ qc ≤ maxLen := by
  obtain ⟨vals, h1, h2, h3⟩ := h
  obtain ⟨a', c', e⟩ := own_shape h1
  cases e
  obtain ⟨gb, rfl, hb⟩ := own_cellsM h1 (by omega)
  obtain ⟨qa, qc, h4, h5, -, h6, h7⟩ := h3 i hi
  exact ⟨gb, qa, qc, rfl, hb i _ h4, h5, h6, h7⟩
set_option maxRecDepth 100000 in
set_option maxHeartbeats 8000000 in
theorem ways_played (l : List Int) (a : Option Addr) (c x0 x1 sc : Nat) (w : World) (h : CellsAt w .u8 a l) (hl : l.length ≤ 9223372036854775807) (hr : ∀ x ∈ l, 0 ≤ x ∧ x ≤ 255) (hx0 : x0 < 256) (hx1 : x1 < 256) (hsc : sc < 65536) :
    Calls Try.prog 5 #[.slice a l.length c, .agg #[.int .u8 x0, .int .u8 x1], .int .u16 sc] w fun e w' => e = .returned (.bool true) ∧ Ext w w' := by
  obtain ⟨bl, hbl⟩ : ∃ y, pbL l 30 = y := ⟨_, rfl⟩
  have HBL := Lib.hid hbl
  obtain ⟨g, hg⟩ : ∃ y : Int, (x0 : Int) % 3 = y := ⟨_, rfl⟩
  obtain ⟨d, hd⟩ : ∃ y : Nat, 1 + (x1 : Int) % 6 = (y : Int) := ⟨1 + x1 % 6, by omega⟩
  obtain ⟨s, hs⟩ : ∃ y : Nat, 2 + (sc : Int) % 300 = (y : Int) := ⟨2 + sc % 300, by omega⟩
  have hg3 : 0 ≤ g ∧ g ≤ 2 := by omega
  have hd6 : 1 ≤ d ∧ d ≤ 6 := by omega
  have hs3 : 2 ≤ s ∧ s ≤ 301 := by omega
  obtain ⟨hg0, hg2⟩ := hg3
  obtain ⟨hd1, hd6⟩ := hd6
  obtain ⟨hs2, hs3⟩ := hs3
  have HG := Lib.hid hg
  have HD := Lib.hid hd
  have HS := Lib.hid hs
  have HBI := Lib.hid (fun x (hx : x ∈ pbL l 30) => pbL_bed hr hx)
  have hRL := Lib.hid (pbL_rul (l := l) (most := 30) (g := g) (darts := (d : Int)) hr ⟨hg0, hg2⟩ (by omega))
  obtain ⟨w1, hw1⟩ : ∃ y, y = w.alloc (.cells #[.int .u8 x0, .int .u8 x1] 78) := ⟨_, rfl⟩
  have hx : Ext w w1 := by rw [hw1]; exact (Ext.refl w).alloc _
  have hB4 : Blk w1 w.heap.size #[.int .u8 x0, .int .u8 x1] := by rw [hw1]; exact Blk.new _ _ _
  have HPB := Lib.hid (fun W (hX : Ext w1 W) => pub_Beds l a c 30 W ((h.ext hx).ext hX) hl hr (by omega))
  rw [hbl] at HPB hRL HBI
  have c0 := hB4.cell 0 (v := .int .u8 x0) rfl
  have c1 := hB4.cell 1 (v := .int .u8 x1) rfl
  have cl := hB4.lt
  have HX1 := Lib.hid hx
  have HW1 := Lib.hid hw1
  clear h hl hx hB4 hbl hg hd hs hr hw1
  have hlo4 : ¬ (w1.heap.size ≤ w.heap.size) := by omega
  go_enter Try.func5, Try.ntmps5
  go_upto_region 1 with fail
  rw [← HW1.out]
  refine wp_region_calls (by kernel_rfl) [.no, .slc bl.length, .no, .no, .no, .no, .no, .no, .no, .no, .no, .no, .ptr, .any] w1.heap.size (fun c => c.2.heap.size)
    (fun (c : Nat × World) L u => [bif L 1 then Res.snap c else Res.none, bif L 1 then Res.pure (Ext w1 c.2 ∧ w1.heap.size ≤ c.1 ∧ BdsV bl (u 1) c.1 c.2) else Res.none, bif L 12 then Res.blk (ptrAt (u 12)) (bif L 13 then #[u 1, .int .i64 ((x0 : Int) % 3), .int .i64 (1 + (x1 : Int) % 6)] else #[.slice none 0 0, .int .i64 0, .int .i64 0]) else Res.none])
    (0, w1) (by kernel_rfl) (Nat.le_of_ble_eq_true rfl) (fun c L L' u hh => by simp only [hh 1 rfl, hh 12 rfl, hh 13 rfl]) (Nat.le_refl _) (fun _ => Frm.nones _ 3 w1) ?_
  intro T hT hne u hu
  obtain ⟨ba, bc, u1⟩ : ∃ a c, u 1 = .slice a bl.length c := hu 1 rfl
  obtain ⟨kr, u12⟩ : ∃ k, u 12 = .pointer (some ⟨k, 0, none⟩) := hu 12 rfl
  clear hu
  refine lx_next 1 (by rfl) (by decide) ?_
  dsimp only [List.take, List.drop]
  repeat (go_big_quiet_step (fail))
  refine wpQuiet_nil ?_
  refine lx_loud (by rfl) (by kernel_rfl) ?_ (fun K hK => ?_)
  · intro L w3 hL hd hcl hC hs
    obtain ⟨x, rfl⟩ := hC
    obtain ⟨c, hmc, hs⟩ := hs
    have hzs := x.size
    have h13 := hcl.off hL 40 13 (by kernel_rfl)
    simp only [hL, h13, cond_false] at hs
    have hX : Ext w1 x.world := Chg.to_ext (Ext.refl w1) x.chg (by rintro i ⟨_, h⟩; exact h)
    go_wp2_with fail
    refine (HPB.out _ hX).mono ?_
    rintro e w' ⟨v, rfl, ho, hx⟩
    have hsz' := hx.size
    obtain ⟨oa, oc, rfl⟩ := own_shape ho
    go_wp2
    exact lik_call x (Nat.le_refl _) ⟨_, _, rfl⟩ hs 0 1 (by decide) rfl rfl hx (x.world.heap.size, w') (Nat.le_refl _) (φ := Ext w1 w' ∧ w1.heap.size ≤ x.world.heap.size ∧ BdsV bl _ x.world.heap.size w') ⟨hX.trans hx, hzs, ho⟩ (by first | (simp [upd, updv, h13, hL]; done) | (simp [upd, updv, h13, hL]; rfl))
  rw [u1]
  go_simp
  with_reducible refine hK _ ?_
  clear hK K
  refine lx_next 10 (by rfl) (by decide) ?_
  dsimp only [List.take, List.drop]
  repeat (go_big_quiet_step (fail))
  refine wpQuiet_nil ?_
  refine lx_loud (by rfl) (by kernel_rfl) ?_ (fun K hK => ?_)
  · intro L w3 hL hd hcl hC hs
    obtain ⟨x, rfl⟩ := hC
    obtain ⟨c, hmc, hs⟩ := hs
    have hzs := x.size
    have h13 := hcl.off hL 40 13 (by kernel_rfl)
    simp only [hL, h13, cond_false] at hs
    go_wp2
    exact lik_set x (Nat.le_refl _) ⟨_, rfl⟩ hs 2 (r' := Res.blk x.world.heap.size #[.slice none 0 0, .int .i64 0, .int .i64 0]) rfl (((Ext.refl x.world).alloc _).chg _) (Blk.new _ _ _) (fun k hk => .inr (by rw [show k = x.world.heap.size from hk]; simp)) c hmc (by first | (simp [upd, updv, h13, hL]; done) | (simp [upd, updv, h13, hL]; rfl))
  rw [u12]
  go_simp
  with_reducible refine hK _ ?_
  clear hK K
  refine lx_loud (by rfl) (by kernel_rfl) ?_ (fun K hK => ?_)
  · intro L w3 hL hd hcl hC hs
    obtain ⟨x, rfl⟩ := hC
    obtain ⟨c, hmc, hs⟩ := hs
    have hzs := x.size
    have h1 := hd 1 (by kernel_rfl)
    have h12 := hd 12 (by kernel_rfl)
    simp only [hL, h1, h12, cond_true, cond_false] at hs
    rw [u12] at hs
    have hb : Blk x.world kr #[.slice none 0 0, .int .i64 0, .int .i64 0] := hs.get 2 rfl
    have hlt := hb.lt
    have q0 := hb.cell 0 (v := .slice none 0 0) rfl
    have q1 := hb.cell 1 (v := .int .i64 0) rfl
    have q2 := hb.cell 2 (v := .int .i64 0) rfl
    have f0 := hb.frozen 0
    have f1 := hb.frozen 1
    have f2 := hb.frozen 2
    go_wp2
    exact lik_set x (Nat.le_refl _) trivial hs 2 rfl (three_chg (fun k => k = kr) _ rfl _ _ _) (r' := Res.blk kr #[.slice ba bl.length bc, .int .i64 ((x0 : Int) % 3), .int .i64 (1 + (x1 : Int) % 6)]) (three_set hb _ _ _) (fun _ hk => .inl hk) c hmc (by first | (simp [upd, updv, h1, h12, hL, u12, u1, ptrAt]; done) | (simp [upd, updv, h1, h12, hL, u12, u1, ptrAt]; rfl))
  go_simp
  with_reducible refine hK _ ?_
  clear hK K
  refine lx_nil ?_
  intro x hs
  obtain ⟨c, hmc, hs⟩ := hs
  rw [u1, u12] at hs
  have hX : Ext w1 x.world := Chg.to_ext (Ext.refl w1) x.chg (by rintro i ⟨_, h⟩; exact h)
  have hmc2 : c.2.heap.size ≤ x.world.heap.size := hmc
  have hp1 : Ext w1 c.2 ∧ w1.heap.size ≤ c.1 ∧ BdsV bl (.slice ba bl.length bc) c.1 c.2 := hs.get 1 rfl
  have hj1 := hp1.2.2.chg (snap_chg (hs.get 0 rfl) hp1.1 hX (by omega)) (fun k hk => hk.2)
  have hbs : Blk x.world kr #[.slice ba bl.length bc, .int .i64 ((x0 : Int) % 3), .int .i64 (1 + (x1 : Int) % 6)] := hs.get 2 rfl
  have hbc := hj1.cells
  clear hs hmc hmc2 hp1 hT hne u1 u12 hj1
  obtain ⟨w2, hw2⟩ : ∃ y, x.world = y := ⟨_, rfl⟩
  rw [hw2] at hX hbs hbc ⊢
  rw [HG.out, HD.out] at hbs
  clear hw2 x c0 c1 cl hlo4 HPB HW1
  have HX2 := Lib.hid (HX1.out.trans hX)
  have HBS := Lib.hid hbs
  have HBC := Lib.hid hbc
  have q0 := hbs.cell 0 (v := .slice ba bl.length bc) rfl
  have q1 := hbs.cell 1 (v := .int .i64 g) rfl
  have q2 := hbs.cell 2 (v := .int .i64 d) rfl
  have ql := hbs.lt
  clear hX hbs hbc HX1
  go_upto_region 3 with fail
  rw [HS.out]
  have ht0 := (allO_len (g := g) (most := s) (rul_parts hRL.out).1.2 (fun x hx => ((rul_wrt hRL.out).2 x hx).2.1) (by omega : d ≤ 9) (Nat.le_refl s)).2
  by_cases ht : 0 < totO (rwsO g bl s d) s ∧ totO (rwsO g bl s d) s ≤ 3000
  · have HW := Lib.hid (out_Ways bl ba bc g d s w2 HBC.out hRL.out (by omega) ht)
    have HALL := Lib.hid (fun q (hq : q ∈ allO g bl (rwsO g bl s d) d s) => all_way hq)
    obtain ⟨ws, hws⟩ : ∃ y, allO g bl (rwsO g bl s d) d s = y := ⟨_, rfl⟩
    rw [hws] at HW HALL
    clear ht ht0 hws
    go_wp2_with fail
    refine HW.out.mono ?_
    rintro e w3 ⟨v, rfl, hwy, hx3⟩
    obtain ⟨va, vc, rfl⟩ : ∃ a c, v = .slice a ws.length c := by
      obtain ⟨vals, h1, -, -⟩ := hwy
      exact own_shape h1
    have HWY := Lib.hid hwy
    have HX3 := Lib.hid (HX2.out.trans hx3)
    have HBS3 := Lib.hid (HBS.out.ext hx3)
    obtain ⟨n, hn⟩ : ∃ y, ws.length = y := ⟨_, rfl⟩
    rw [hn] at HWY ⊢
    have HN := Lib.hid hn
    clear hx3 hwy HW q0 q1 q2 ql HX2 HBS HBC hn
    have q0 := HBS3.out.cell 0 (v := .slice ba bl.length bc) rfl
    have q1 := HBS3.out.cell 1 (v := .int .i64 g) rfl
    have q2 := HBS3.out.cell 2 (v := .int .i64 d) rfl
    have ql := HBS3.out.lt
    go_upto_region 7 with fail
    obtain ⟨w4, hw4⟩ : ∃ y, y = (w3.alloc (.cells #[.int .i64 s, .int .i64 0, .int .i64 g] 56)).alloc (.cells #[.slice (some ⟨w3.heap.size, 0, none⟩) 1 1, .int .i64 0, .int .i64 0, .bool false] 68) := ⟨_, rfl⟩
    rw [← hw4]
    have hx4 : Ext w3 w4 := by rw [hw4]; exact ((Ext.refl w3).alloc _).alloc _
    have hb1 : Blk w4 w3.heap.size #[.int .i64 s, .int .i64 0, .int .i64 g] := by rw [hw4]; exact (Blk.new _ _ _).alloc _
    have hb2 : Blk w4 (w3.heap.size + 1) #[.slice (some ⟨w3.heap.size, 0, none⟩) 1 1, .int .i64 0, .int .i64 0, .bool false] := by rw [hw4]; exact Blk.at _ (by simp)
    obtain ⟨kc, hkc⟩ : ∃ y, w3.heap.size = y := ⟨_, rfl⟩
    rw [hkc] at hb1 hb2 ⊢
    obtain ⟨kp, hkp⟩ : ∃ y, kc + 1 = y := ⟨_, rfl⟩
    rw [hkp] at hb2 ⊢
    have HX4 := Lib.hid (HX3.out.trans hx4)
    have HBS4 := Lib.hid (HBS3.out.ext hx4)
    have HB1 := Lib.hid hb1
    have HB2 := Lib.hid hb2
    have HWA := Lib.hid ((show WaysAt w3 va ws from fun i hi => HWY.out.at_ i hi).ext hx4)
    clear hw4 hx4 hb1 hb2 hkc hkp HX3 HBS3 q0 q1 q2 ql HWY
    go_upto_region 8 with fail
    go_loopw [12] (fun iv wr => ∃ k : Nat, iv = .int .i64 k ∧ k ≤ n ∧ Ext w4 wr) (fun iv _ => n - (intOf iv).toNat)
    case atStart => exact ⟨0, rfl, by omega, Ext.refl _⟩
    case round =>
      rename_i iv
      obtain ⟨k, rfl, hk, hx⟩ := hrel
      obtain ⟨w5, rfl⟩ : ∃ y, y = wr := ⟨_, rfl⟩
      have HX5 := Lib.hid hx
      clear hx
      by_cases hkn : k < n
      · have hkn' : (k : Int) < (n : Int) := by omega
        by_cases hk2 : k < 200
        · have hk2' : (k : Int) < 200 := by omega
          have hkw : k < ws.length := by rw [HN.out]; exact hkn
          obtain ⟨gb, qa, qc, rfl, h2, h3, h4, h5⟩ := HWA.out k hkw
          obtain ⟨hq1, hq2, hq3, hq4⟩ := HALL.out _ (List.getElem_mem hkw)
          obtain ⟨q, hq⟩ : ∃ y, ws[k] = y := ⟨_, rfl⟩
          rw [hq] at h2 h3 h4 hq1 hq2 hq3 hq4
          clear hq hkw
          have hbw : ∀ x ∈ q, BedW g x := fun x hx => bed_w (by omega) (HBI.out x (hq3 x hx))
          have hbi : ∀ x ∈ q, I64 x := fun x hx => ((rul_wrt hRL.out).2 x (hq3 x hx)).1
          obtain ⟨G1, hS1, hwon⟩ := playS_way (s := s) (by omega) (by omega) (List.ne_nil_of_length_pos hq1) (by omega) hq4 hbw
          have hql := visW_len q
          obtain ⟨nv, hnv⟩ : ∃ y, (visW q).length = y := ⟨_, rfl⟩
          have HNV := Lib.hid hnv
          obtain ⟨m, hm⟩ : ∃ y, q.length = y := ⟨_, rfl⟩
          rw [hm] at h2 h4 hq1 hq2 hwon hql
          have HM := Lib.hid hm
          have HQ3 := Lib.hid hbw
          have HQ4 := Lib.hid hq4
          have HQI := Lib.hid hbi
          obtain ⟨S1, hS⟩ : ∃ S, ((G1, 0, 0) : Gm × Int × Int) = S := ⟨_, rfl⟩
          have hw1 : S1.2.1 = 0 ∧ S1.2.2 = 0 ∧ S1.1.over = true ∧ S1.1.left = [0] ∧ S1.1.darts = [(m : Int)] ∧ S1.1.winners.length = 1 := by
            rw [← hS]
            exact ⟨rfl, rfl, hwon.over, hwon.left, hwon.darts, hwon.winners⟩
          rw [hS] at hS1
          have HS1 := Lib.hid hS1
          have HW1 := Lib.hid hw1
          have HGB := Lib.hid h2
          obtain ⟨qb, qo, rfl⟩ : ∃ qb qo, qa = some ⟨qb, qo, none⟩ := by
            obtain ⟨b, o, e, -⟩ := h3 0 (by omega)
            exact ⟨b, _, e⟩
          have HC3 := Lib.hid h3
          unfold maxLen at h5
          clear hq3 hq4 hbw hbi hS1 hwon hnv hql hm hS hw1 h2 h3 HWA
          have t0 := HX5.out.cell HGB.out
          have tl := lt_of_cell t0
          simp only at tl t0
          have b0 := (HBS4.out.ext HX5.out).cell 0 (v := .slice ba bl.length bc) rfl
          have b1 := (HBS4.out.ext HX5.out).cell 1 (v := .int .i64 g) rfl
          have b2 := (HBS4.out.ext HX5.out).cell 2 (v := .int .i64 d) rfl
          have bl' := (HBS4.out.ext HX5.out).lt
          have hdm1 : decide ((m : Int) < 1) = false := by simp; omega
          have hdmd : decide ((d : Int) < (m : Int)) = false := by simp; omega
          go_upto_region 10 with fail
          refine wp_region_later (by kernel_rfl) (by kernel_rfl) ?_
          repeat (go_big_quiet_step (fail))
          refine wpQuiet_nil ?_
          intro w6 hw6
          obtain ⟨⟨w6, hx6⟩, rfl⟩ := hw6
          have HX6 := Lib.hid (HX5.out.trans hx6)
          clear hx6 t0 tl b0 b1 b2 bl' hdm1 hdmd HX5
          have p0 := ((HB2.out.ext HX6.out)).cell 0 (v := .slice (some ⟨kc, 0, none⟩) 1 1) rfl
          have p1 := ((HB2.out.ext HX6.out)).cell 1 (v := .int .i64 0) rfl
          have p2 := ((HB2.out.ext HX6.out)).cell 2 (v := .int .i64 0) rfl
          have p3 := ((HB2.out.ext HX6.out)).cell 3 (v := .bool false) rfl
          have pl := ((HB2.out.ext HX6.out)).lt
          have t0 := HX6.out.cell HGB.out
          have tl := lt_of_cell t0
          simp only at tl t0
          have hkp : ¬ (w6.heap.size ≤ kp) := by omega
          have hgb : ¬ (w6.heap.size ≤ gb) := by omega
          have hth := fun W (hX : Ext w6 W) => pub_Thrown q (some ⟨qb, qo, none⟩) qc W (HC3.out.ext (HX6.out.trans hX)) (by rw [HM.out]; omega) (fun h => by cases h) ⟨by rw [HM.out]; exact h4, by unfold maxLen; exact h5⟩
          simp only [HM.out] at hth
          have HTH := Lib.hid hth
          have HPL := Lib.hid (fun W (hX : Ext w6 W) va vc base (hV : VisF W base (.slice va nv vc) (visW q)) => play_one s g kc q va nv vc base W ((HB1.out.ext HX6.out).ext hX) HNV.out hV HQI.out (by rw [HM.out]; omega) S1 HS1.out)
          clear hth
          go_upto_region 12 with fail
          refine wp_region_calls (by kernel_rfl) [.no, .no, .no, .no, .no, .slc nv, .of (PlyS S1) (plyW S1) (plyW_shape S1), .no, .no, .no, .no, .ptr, .any] w6.heap.size (fun c => max c.1.2.heap.size c.2.2.heap.size)
            (fun (c : (Nat × World) × (Nat × World)) L u => [bif L 5 then Res.snap c.1 else Res.none, bif L 5 then Res.pure (Ext w6 c.1.2 ∧ w6.heap.size ≤ c.1.1 ∧ VisF c.1.2 c.1.1 (u 5) (visW q)) else Res.none, bif L 6 then Res.snap c.2 else Res.none, bif L 6 then Res.pure (Ext w6 c.2.2 ∧ w6.heap.size ≤ c.2.1 ∧ PlyV S1 (u 6) c.2.1 c.2.2) else Res.none,
              bif L 11 then Res.blk (ptrAt (u 11)) (bif L 12 then #[aggAt 0 (aggAt 0 (u 6)), aggAt 1 (aggAt 0 (u 6)), aggAt 2 (aggAt 0 (u 6)), aggAt 3 (aggAt 0 (u 6)), aggAt 4 (aggAt 0 (u 6)), aggAt 5 (aggAt 0 (u 6)), aggAt 6 (aggAt 0 (u 6))] else #[.slice none 0 0, .slice none 0 0, .slice none 0 0, .int .i64 0, .int .i64 0, .bool false, .slice none 0 0]) else Res.none])
            ((0, w6), (0, w6)) (by kernel_rfl) (Nat.le_of_ble_eq_true rfl) (fun c L L' u hh => by simp only [hh 5 rfl, hh 6 rfl, hh 11 rfl, hh 12 rfl]) (by simp) (fun _ => Frm.nones _ 5 w6) ?_
          intro T hT hne u hu
          obtain ⟨ava, avc, uV⟩ : ∃ a c, u 5 = .slice a nv c := hu 5 rfl
          obtain ⟨aa0, aa1, aa2, aa3, ac0, ac1, ac2, ac3, uP⟩ : PlyS S1 (u 6) := hu 6 rfl
          obtain ⟨ak, uA⟩ : ∃ k, u 11 = .pointer (some ⟨k, 0, none⟩) := hu 11 rfl
          clear hu
          refine lx_next 5 (by rfl) (by decide) ?_
          dsimp only [List.take, List.drop]
          repeat (go_big_quiet_step (fail))
          refine wpQuiet_nil ?_
          refine lx_loud (by rfl) (by kernel_rfl) ?_ (fun K hK => ?_)
          · intro L w3 hL hd hcl hC hs
            obtain ⟨x, rfl⟩ := hC
            obtain ⟨c, hmc, hs⟩ := hs
            have hzs := x.size
            have h6 := hcl.off hL 40 6 (by kernel_rfl)
            have h12 := hcl.off hL 40 12 (by kernel_rfl)
            simp only [hL, h6, h12, cond_false] at hs
            have hX : Ext w6 x.world := Chg.to_ext (Ext.refl w6) x.chg (by rintro i ⟨_, h⟩; exact h)
            go_wp2_with fail
            refine (HTH.out _ hX).mono ?_
            rintro e w' ⟨v, rfl, ho, hx⟩
            have hsz' := hx.size
            have hmc2 : max c.1.2.heap.size c.2.2.heap.size ≤ x.world.heap.size := hmc
            have HO := Lib.hid ho
            obtain ⟨oa, oc, rfl⟩ := ho.shape
            rw [HNV.out] at HO ⊢
            clear ho
            go_wp2
            exact lik_call x (Nat.le_refl _) ⟨_, _, rfl⟩ hs 0 1 (by decide) rfl rfl hx ((x.world.heap.size, w'), c.2) (by show max w'.heap.size c.2.2.heap.size ≤ w'.heap.size; omega) (φ := Ext w6 w' ∧ w6.heap.size ≤ x.world.heap.size ∧ VisF w' x.world.heap.size _ (visW q)) ⟨hX.trans hx, hzs, HO.out⟩ (by first | (simp [upd, updv, h6, h12, hL]; done) | (simp [upd, updv, h6, h12, hL]; rfl))
          rw [uV]
          go_simp
          with_reducible refine hK _ ?_
          clear hK K
          refine lx_loud (by rfl) (by kernel_rfl) ?_ (fun K hK => ?_)
          · intro L w3 hL hd hcl hC hs
            obtain ⟨x, rfl⟩ := hC
            obtain ⟨c, hmc, hs⟩ := hs
            have hzs := x.size
            have h12 := hcl.off hL 40 12 (by kernel_rfl)
            have h5 := hd 5 (by kernel_rfl)
            simp only [hL, h12, h5, cond_true, cond_false] at hs
            rw [uV] at hs
            have hX : Ext w6 x.world := Chg.to_ext (Ext.refl w6) x.chg (by rintro i ⟨_, h⟩; exact h)
            have hmc2 : max c.1.2.heap.size c.2.2.heap.size ≤ x.world.heap.size := hmc
            have hp1 : Ext w6 c.1.2 ∧ w6.heap.size ≤ c.1.1 ∧ VisF c.1.2 c.1.1 (.slice ava nv avc) (visW q) := hs.get 1 rfl
            have HJ5 := Lib.hid (HPL.out x.world hX ava avc _ (hp1.2.2.chgW (snap_chg (hs.get 0 rfl) hp1.1 hX (by omega)) (fun k hk => hk.2)))
            have HS5 := Lib.hid hs
            clear hp1 hs
            go_wp2_with fail
            refine HJ5.out.mono ?_
            rintro e w' ⟨v, rfl, hV, hx⟩
            have hsz' := hx.size
            have HSh := Lib.hid hV.shape
            have HV' := Lib.hid hV
            clear hV
            go_wp2
            exact lik_call x (Nat.le_refl _) HSh.out HS5.out 2 3 (by decide) rfl rfl hx (c.1, (x.world.heap.size, w')) (by show max c.1.2.heap.size w'.heap.size ≤ w'.heap.size; omega) (φ := Ext w6 w' ∧ w6.heap.size ≤ x.world.heap.size ∧ PlyV S1 _ x.world.heap.size w') ⟨hX.trans hx, hzs, HV'.out⟩ (by first | (simp [upd, updv, h12, h5, hL, uV]; done) | (simp [upd, updv, h12, h5, hL, uV]; rfl))
          rw [uP]
          go_simp
          with_reducible refine hK _ ?_
          clear hK K
          refine lx_next 4 (by rfl) (by decide) ?_
          dsimp only [List.take, List.drop]
          repeat (go_big_quiet_step (fail))
          refine wpQuiet_nil ?_
          refine lx_loud (by rfl) (by kernel_rfl) ?_ (fun K hK => ?_)
          · intro L w3 hL hd hcl hC hs
            obtain ⟨x, rfl⟩ := hC
            obtain ⟨c, hmc, hs⟩ := hs
            have hzs := x.size
            have h12 := hcl.off hL 40 12 (by kernel_rfl)
            simp only [hL, h12, cond_false] at hs
            go_wp2
            exact lik_set x (Nat.le_refl _) ⟨_, rfl⟩ hs 4 (r' := Res.blk x.world.heap.size #[.slice none 0 0, .slice none 0 0, .slice none 0 0, .int .i64 0, .int .i64 0, .bool false, .slice none 0 0]) rfl (((Ext.refl x.world).alloc _).chg _) (Blk.new _ _ _) (fun k hk => .inr (by rw [show k = x.world.heap.size from hk]; simp)) c hmc (by first | (simp [upd, updv, h12, hL]; done) | (simp [upd, updv, h12, hL]; rfl))
          rw [uA]
          go_simp
          with_reducible refine hK _ ?_
          clear hK K
          refine lx_loud (by rfl) (by kernel_rfl) ?_ (fun K hK => ?_)
          · intro L w3 hL hd hcl hC hs
            obtain ⟨x, rfl⟩ := hC
            obtain ⟨c, hmc, hs⟩ := hs
            have hzs := x.size
            have h11 := hd 11 (by kernel_rfl)
            have h6 := hd 6 (by kernel_rfl)
            simp only [hL, h11, h6, cond_true, cond_false] at hs
            rw [uA] at hs
            have hb : Blk x.world ak #[.slice none 0 0, .slice none 0 0, .slice none 0 0, .int .i64 0, .int .i64 0, .bool false, .slice none 0 0] := hs.get 4 rfl
            have hlt := hb.lt
            have q0 := hb.cell 0 (v := .slice none 0 0) rfl
            have f0 := hb.frozen 0
            have q1 := hb.cell 1 (v := .slice none 0 0) rfl
            have f1 := hb.frozen 1
            have q2 := hb.cell 2 (v := .slice none 0 0) rfl
            have f2 := hb.frozen 2
            have q3 := hb.cell 3 (v := .int .i64 0) rfl
            have f3 := hb.frozen 3
            have q4 := hb.cell 4 (v := .int .i64 0) rfl
            have f4 := hb.frozen 4
            have q5 := hb.cell 5 (v := .bool false) rfl
            have f5 := hb.frozen 5
            have q6 := hb.cell 6 (v := .slice none 0 0) rfl
            have f6 := hb.frozen 6
            go_wp2
            exact lik_set x (Nat.le_refl _) trivial hs 4 rfl (seven_chg (fun k => k = ak) _ rfl _ _ _ _ _ _ _) (r' := Res.blk ak #[.slice aa0 S1.1.left.length ac0, .slice aa1 S1.1.darts.length ac1, .slice aa2 S1.1.inn.length ac2, .int .i64 S1.1.next, .int .i64 S1.1.round, .bool S1.1.over, .slice aa3 S1.1.winners.length ac3]) (seven_set hb _ _ _ _ _ _ _) (fun _ hk => .inl hk) c hmc (by first | (simp [upd, updv, h11, h6, hL, uA, uP, aggAt, ptrAt]; done) | (simp [upd, updv, h11, h6, hL, uA, uP, aggAt, ptrAt]; rfl))
          go_simp
          with_reducible refine hK _ ?_
          clear hK K
          refine lx_next 2 (by rfl) (by decide) ?_
          dsimp only [List.take, List.drop]
          repeat (go_big_quiet_step (fail))
          refine wpQuiet_nil ?_
          refine lx_nil ?_
          intro x hs
          obtain ⟨c, hmc, hs⟩ := hs
          rw [uP, uA] at hs
          have hX : Ext w6 x.world := Chg.to_ext (Ext.refl w6) x.chg (by rintro i ⟨_, h⟩; exact h)
          have hmc2 : max c.1.2.heap.size c.2.2.heap.size ≤ x.world.heap.size := hmc
          have hp5 : Ext w6 c.2.2 ∧ w6.heap.size ≤ c.2.1 ∧ PlyV S1 (.tuple #[.agg #[.slice aa0 S1.1.left.length ac0, .slice aa1 S1.1.darts.length ac1, .slice aa2 S1.1.inn.length ac2, .int .i64 S1.1.next, .int .i64 S1.1.round, .bool S1.1.over, .slice aa3 S1.1.winners.length ac3], .int .i64 S1.2.1, .int .i64 S1.2.2]) c.2.1 c.2.2 := hs.get 3 rfl
          have hj5 := (hp5.2.2.chg (snap_chg (hs.get 2 rfl) hp5.1 hX (by omega)) (fun k hk => hk.2)).reads
          have hbs : Blk x.world ak #[.slice aa0 S1.1.left.length ac0, .slice aa1 S1.1.darts.length ac1, .slice aa2 S1.1.inn.length ac2, .int .i64 S1.1.next, .int .i64 S1.1.round, .bool S1.1.over, .slice aa3 S1.1.winners.length ac3] := hs.get 4 rfl
          clear hs hmc hmc2 hp5 hT hne uV uP uA
          obtain ⟨w7, hw7⟩ : ∃ y, x.world = y := ⟨_, rfl⟩
          rw [hw7] at hX hj5 hbs ⊢
          have HX7 := Lib.hid (HX6.out.trans hX)
          obtain ⟨e1, e2, e3, e4, e5, e6⟩ := HW1.out
          have e4l : S1.1.left.length = 1 := by rw [e4]; rfl
          have e5l : S1.1.darts.length = 1 := by rw [e5]; rfl
          rw [e3, e4l, e5l, e6] at hbs
          rw [e4, e5] at hj5
          rw [e1, e2]
          obtain ⟨lb, lo, rfl, lc⟩ := hj5.1.head
          obtain ⟨db, do_, rfl, dc⟩ := hj5.2.head
          have s0 := hbs.cell 0 (v := .slice (some ⟨lb, lo, none⟩) 1 ac0) rfl
          have s1 := hbs.cell 1 (v := .slice (some ⟨db, do_, none⟩) 1 ac1) rfl
          have s5 := hbs.cell 5 (v := .bool true) rfl
          have s6 := hbs.cell 6 (v := .slice aa3 1 ac3) rfl
          have sl := hbs.lt
          have ll := lt_of_cell lc
          have dl := lt_of_cell dc
          simp only at ll dl
          clear hw7 x hX hj5 hbs e1 e2 e3 e4 e5 e6 e4l e5l p0 p1 p2 p3 pl t0 tl hkp hgb HTH HPL HW1 HX6
          have t0 := HX7.out.cell HGB.out
          have tl := lt_of_cell t0
          simp only at tl t0
          go_upto_region 13 with fail
          refine wp_region_later (by kernel_rfl) (by kernel_rfl) ?_
          repeat (go_big_quiet_step (fail))
          refine wpQuiet_nil ?_
          intro w8 hw8
          obtain ⟨⟨w8, hx8⟩, rfl⟩ := hw8
          have HX8 := Lib.hid (HX7.out.trans hx8)
          clear hx8 s0 s1 s5 s6 sl lc dc ll dl t0 tl HX7
          have t0 := HX8.out.cell HGB.out
          have tl := lt_of_cell t0
          simp only at tl t0
          go_upto_region 15 with fail
          obtain ⟨P, b, hpb⟩ : ∃ P b, q = P ++ [b] := by
            rcases List.eq_nil_or_concat q with h | ⟨P, b, h⟩
            · rw [h] at HM
              have := HM.out
              simp at this
              omega
            · exact ⟨P, b, by rw [h]; simp⟩
          have hpm : m = P.length + 1 := by rw [← HM.out, hpb, List.length_append]; rfl
          obtain ⟨p, hp⟩ : ∃ y, P.length = y := ⟨_, rfl⟩
          rw [hp] at hpm
          have hmp : (m : Int) - 1 = (p : Int) := by omega
          have HMP := Lib.hid hmp
          have HP := Lib.hid hp
          have HPB := Lib.hid hpb
          have hnp := visW_len P
          obtain ⟨np, hnp'⟩ : ∃ y, (visW P).length = y := ⟨_, rfl⟩
          have HNP := Lib.hid hnp'
          have hpm1 : p < m := by omega
          have HPM := Lib.hid hpm
          clear hmp hp hpb hnp hnp' hpm
          go_upto_region 16 with fail
          rw [HMP.out]
          by_cases h3 : p % 3 = 0
          · have h3' : ((p : Int) % 3 == 0) = true := by simp; omega
            obtain ⟨G2, hS2, hov, hlf⟩ := playS_part (s := s) (g := g) (m := P) (b := b) (by omega) (by omega) (by rw [HP.out]; omega) (by rw [HP.out]; exact h3) (HPB.out ▸ HQ4.out) (HPB.out ▸ HQ3.out)
            obtain ⟨S2, hS⟩ : ∃ S, ((G2, 0, 0) : Gm × Int × Int) = S := ⟨_, rfl⟩
            obtain ⟨wb, hwb⟩ : ∃ y, wrt b = y := ⟨_, rfl⟩
            have HWB := Lib.hid hwb
            have hw1 : S2.2.1 = 0 ∧ S2.2.2 = 0 ∧ S2.1.over = false ∧ S2.1.left = [wb] := by
              rw [← hS]
              exact ⟨rfl, rfl, hov, by rw [← hwb]; exact hlf⟩
            rw [hS] at hS2
            have HS2 := Lib.hid hS2
            have HW1 := Lib.hid hw1
            clear hS hS2 hov hlf hw1 hwb h3
            go_upto_region 17 with fail
            have p0 := ((HB2.out.ext HX8.out)).cell 0 (v := .slice (some ⟨kc, 0, none⟩) 1 1) rfl
            have p1 := ((HB2.out.ext HX8.out)).cell 1 (v := .int .i64 0) rfl
            have p2 := ((HB2.out.ext HX8.out)).cell 2 (v := .int .i64 0) rfl
            have p3 := ((HB2.out.ext HX8.out)).cell 3 (v := .bool false) rfl
            have pl := ((HB2.out.ext HX8.out)).lt
            have hkp : ¬ (w8.heap.size ≤ kp) := by omega
            have hgb : ¬ (w8.heap.size ≤ gb) := by omega
            have hth := fun W (hX : Ext w8 W) => pub_Thrown P (some ⟨qb, qo, none⟩) qc W ((CellsAt.pre (HPB.out ▸ HC3.out)).ext (HX8.out.trans hX)) (by rw [HP.out]; omega) (fun h => by cases h) ⟨by rw [HP.out]; omega, by unfold maxLen; exact h5⟩
            simp only [HP.out] at hth
            have HTH := Lib.hid hth
            have HPL := Lib.hid (fun W (hX : Ext w8 W) va vc base (hV : VisF W base (.slice va np vc) (visW P)) => play_one s g kc P va np vc base W ((HB1.out.ext HX8.out).ext hX) HNP.out hV (fun x hx => HQI.out x (by rw [HPB.out]; simp [hx])) (by rw [HP.out]; omega) S2 HS2.out)
            clear hth
            refine wp_region_calls (by kernel_rfl) [.no, .no, .no, .no, .no, .no, .no, .slc np, .of (PlyS S2) (plyW S2) (plyW_shape S2), .no, .no, .no, .no, .ptr, .any] w8.heap.size (fun c => max c.1.2.heap.size c.2.2.heap.size)
              (fun (c : (Nat × World) × (Nat × World)) L u => [bif L 7 then Res.snap c.1 else Res.none, bif L 7 then Res.pure (Ext w8 c.1.2 ∧ w8.heap.size ≤ c.1.1 ∧ VisF c.1.2 c.1.1 (u 7) (visW P)) else Res.none, bif L 8 then Res.snap c.2 else Res.none, bif L 8 then Res.pure (Ext w8 c.2.2 ∧ w8.heap.size ≤ c.2.1 ∧ PlyV S2 (u 8) c.2.1 c.2.2) else Res.none,
                bif L 13 then Res.blk (ptrAt (u 13)) (bif L 14 then #[aggAt 0 (aggAt 0 (u 8)), aggAt 1 (aggAt 0 (u 8)), aggAt 2 (aggAt 0 (u 8)), aggAt 3 (aggAt 0 (u 8)), aggAt 4 (aggAt 0 (u 8)), aggAt 5 (aggAt 0 (u 8)), aggAt 6 (aggAt 0 (u 8))] else #[.slice none 0 0, .slice none 0 0, .slice none 0 0, .int .i64 0, .int .i64 0, .bool false, .slice none 0 0]) else Res.none])
              ((0, w8), (0, w8)) (by kernel_rfl) (Nat.le_of_ble_eq_true rfl) (fun c L L' u hh => by simp only [hh 7 rfl, hh 8 rfl, hh 13 rfl, hh 14 rfl]) (by simp) (fun _ => Frm.nones _ 5 w8) ?_
            intro T hT hne u hu
            obtain ⟨bva, bvc, uV⟩ : ∃ a c, u 7 = .slice a np c := hu 7 rfl
            obtain ⟨ba0, ba1, ba2, ba3, bc0, bc1, bc2, bc3, uP⟩ : PlyS S2 (u 8) := hu 8 rfl
            obtain ⟨bk, uA⟩ : ∃ k, u 13 = .pointer (some ⟨k, 0, none⟩) := hu 13 rfl
            clear hu
            refine lx_next 7 (by rfl) (by decide) ?_
            dsimp only [List.take, List.drop]
            repeat (go_big_quiet_step (fail))
            refine wpQuiet_nil ?_
            refine lx_loud (by rfl) (by kernel_rfl) ?_ (fun K hK => ?_)
            · intro L w3 hL hd hcl hC hs
              obtain ⟨x, rfl⟩ := hC
              obtain ⟨c, hmc, hs⟩ := hs
              have hzs := x.size
              have h8 := hcl.off hL 40 8 (by kernel_rfl)
              have h14 := hcl.off hL 40 14 (by kernel_rfl)
              simp only [hL, h8, h14, cond_false] at hs
              have hX : Ext w8 x.world := Chg.to_ext (Ext.refl w8) x.chg (by rintro i ⟨_, h⟩; exact h)
              go_wp2_with fail
              refine (HTH.out _ hX).mono ?_
              rintro e w' ⟨v, rfl, ho, hx⟩
              have hsz' := hx.size
              have hmc2 : max c.1.2.heap.size c.2.2.heap.size ≤ x.world.heap.size := hmc
              have HO := Lib.hid ho
              obtain ⟨oa, oc, rfl⟩ := ho.shape
              rw [HNP.out] at HO ⊢
              clear ho
              go_wp2
              exact lik_call x (Nat.le_refl _) ⟨_, _, rfl⟩ hs 0 1 (by decide) rfl rfl hx ((x.world.heap.size, w'), c.2) (by show max w'.heap.size c.2.2.heap.size ≤ w'.heap.size; omega) (φ := Ext w8 w' ∧ w8.heap.size ≤ x.world.heap.size ∧ VisF w' x.world.heap.size _ (visW P)) ⟨hX.trans hx, hzs, HO.out⟩ (by first | (simp [upd, updv, h8, h14, hL]; done) | (simp [upd, updv, h8, h14, hL]; rfl))
            rw [uV]
            go_simp
            with_reducible refine hK _ ?_
            clear hK K
            refine lx_loud (by rfl) (by kernel_rfl) ?_ (fun K hK => ?_)
            · intro L w3 hL hd hcl hC hs
              obtain ⟨x, rfl⟩ := hC
              obtain ⟨c, hmc, hs⟩ := hs
              have hzs := x.size
              have h14 := hcl.off hL 40 14 (by kernel_rfl)
              have h7 := hd 7 (by kernel_rfl)
              simp only [hL, h14, h7, cond_true, cond_false] at hs
              rw [uV] at hs
              have hX : Ext w8 x.world := Chg.to_ext (Ext.refl w8) x.chg (by rintro i ⟨_, h⟩; exact h)
              have hmc2 : max c.1.2.heap.size c.2.2.heap.size ≤ x.world.heap.size := hmc
              have hp1 : Ext w8 c.1.2 ∧ w8.heap.size ≤ c.1.1 ∧ VisF c.1.2 c.1.1 (.slice bva np bvc) (visW P) := hs.get 1 rfl
              have HJ5 := Lib.hid (HPL.out x.world hX bva bvc _ (hp1.2.2.chgW (snap_chg (hs.get 0 rfl) hp1.1 hX (by omega)) (fun k hk => hk.2)))
              have HS5 := Lib.hid hs
              clear hp1 hs
              go_wp2_with fail
              refine HJ5.out.mono ?_
              rintro e w' ⟨v, rfl, hV, hx⟩
              have hsz' := hx.size
              have HSh := Lib.hid hV.shape
              have HV' := Lib.hid hV
              clear hV
              go_wp2
              exact lik_call x (Nat.le_refl _) HSh.out HS5.out 2 3 (by decide) rfl rfl hx (c.1, (x.world.heap.size, w')) (by show max c.1.2.heap.size w'.heap.size ≤ w'.heap.size; omega) (φ := Ext w8 w' ∧ w8.heap.size ≤ x.world.heap.size ∧ PlyV S2 _ x.world.heap.size w') ⟨hX.trans hx, hzs, HV'.out⟩ (by first | (simp [upd, updv, h14, h7, hL, uV]; done) | (simp [upd, updv, h14, h7, hL, uV]; rfl))
            rw [uP]
            go_simp
            with_reducible refine hK _ ?_
            clear hK K
            refine lx_next 4 (by rfl) (by decide) ?_
            dsimp only [List.take, List.drop]
            repeat (go_big_quiet_step (fail))
            refine wpQuiet_nil ?_
            refine lx_loud (by rfl) (by kernel_rfl) ?_ (fun K hK => ?_)
            · intro L w3 hL hd hcl hC hs
              obtain ⟨x, rfl⟩ := hC
              obtain ⟨c, hmc, hs⟩ := hs
              have hzs := x.size
              have h14 := hcl.off hL 40 14 (by kernel_rfl)
              simp only [hL, h14, cond_false] at hs
              go_wp2
              exact lik_set x (Nat.le_refl _) ⟨_, rfl⟩ hs 4 (r' := Res.blk x.world.heap.size #[.slice none 0 0, .slice none 0 0, .slice none 0 0, .int .i64 0, .int .i64 0, .bool false, .slice none 0 0]) rfl (((Ext.refl x.world).alloc _).chg _) (Blk.new _ _ _) (fun k hk => .inr (by rw [show k = x.world.heap.size from hk]; simp)) c hmc (by first | (simp [upd, updv, h14, hL]; done) | (simp [upd, updv, h14, hL]; rfl))
            rw [uA]
            go_simp
            with_reducible refine hK _ ?_
            clear hK K
            refine lx_loud (by rfl) (by kernel_rfl) ?_ (fun K hK => ?_)
            · intro L w3 hL hd hcl hC hs
              obtain ⟨x, rfl⟩ := hC
              obtain ⟨c, hmc, hs⟩ := hs
              have hzs := x.size
              have h13 := hd 13 (by kernel_rfl)
              have h8 := hd 8 (by kernel_rfl)
              simp only [hL, h13, h8, cond_true, cond_false] at hs
              rw [uA] at hs
              have hb : Blk x.world bk #[.slice none 0 0, .slice none 0 0, .slice none 0 0, .int .i64 0, .int .i64 0, .bool false, .slice none 0 0] := hs.get 4 rfl
              have hlt := hb.lt
              have q0 := hb.cell 0 (v := .slice none 0 0) rfl
              have f0 := hb.frozen 0
              have q1 := hb.cell 1 (v := .slice none 0 0) rfl
              have f1 := hb.frozen 1
              have q2 := hb.cell 2 (v := .slice none 0 0) rfl
              have f2 := hb.frozen 2
              have q3 := hb.cell 3 (v := .int .i64 0) rfl
              have f3 := hb.frozen 3
              have q4 := hb.cell 4 (v := .int .i64 0) rfl
              have f4 := hb.frozen 4
              have q5 := hb.cell 5 (v := .bool false) rfl
              have f5 := hb.frozen 5
              have q6 := hb.cell 6 (v := .slice none 0 0) rfl
              have f6 := hb.frozen 6
              go_wp2
              exact lik_set x (Nat.le_refl _) trivial hs 4 rfl (seven_chg (fun k => k = bk) _ rfl _ _ _ _ _ _ _) (r' := Res.blk bk #[.slice ba0 S2.1.left.length bc0, .slice ba1 S2.1.darts.length bc1, .slice ba2 S2.1.inn.length bc2, .int .i64 S2.1.next, .int .i64 S2.1.round, .bool S2.1.over, .slice ba3 S2.1.winners.length bc3]) (seven_set hb _ _ _ _ _ _ _) (fun _ hk => .inl hk) c hmc (by first | (simp [upd, updv, h13, h8, hL, uA, uP, aggAt, ptrAt]; done) | (simp [upd, updv, h13, h8, hL, uA, uP, aggAt, ptrAt]; rfl))
            go_simp
            with_reducible refine hK _ ?_
            clear hK K
            refine lx_next 2 (by rfl) (by decide) ?_
            dsimp only [List.take, List.drop]
            repeat (go_big_quiet_step (fail))
            refine wpQuiet_nil ?_
            refine lx_nil ?_
            intro x hs
            obtain ⟨c, hmc, hs⟩ := hs
            rw [uP, uA] at hs
            have hX : Ext w8 x.world := Chg.to_ext (Ext.refl w8) x.chg (by rintro i ⟨_, h⟩; exact h)
            have hmc2 : max c.1.2.heap.size c.2.2.heap.size ≤ x.world.heap.size := hmc
            have hp5 : Ext w8 c.2.2 ∧ w8.heap.size ≤ c.2.1 ∧ PlyV S2 (.tuple #[.agg #[.slice ba0 S2.1.left.length bc0, .slice ba1 S2.1.darts.length bc1, .slice ba2 S2.1.inn.length bc2, .int .i64 S2.1.next, .int .i64 S2.1.round, .bool S2.1.over, .slice ba3 S2.1.winners.length bc3], .int .i64 S2.2.1, .int .i64 S2.2.2]) c.2.1 c.2.2 := hs.get 3 rfl
            have hj5 := (hp5.2.2.chg (snap_chg (hs.get 2 rfl) hp5.1 hX (by omega)) (fun k hk => hk.2)).reads
            have hbs : Blk x.world bk #[.slice ba0 S2.1.left.length bc0, .slice ba1 S2.1.darts.length bc1, .slice ba2 S2.1.inn.length bc2, .int .i64 S2.1.next, .int .i64 S2.1.round, .bool S2.1.over, .slice ba3 S2.1.winners.length bc3] := hs.get 4 rfl
            clear hs hmc hmc2 hp5 hT hne uV uP uA
            obtain ⟨w9, hw9⟩ : ∃ y, x.world = y := ⟨_, rfl⟩
            rw [hw9] at hX hj5 hbs ⊢
            have HX9 := Lib.hid (HX8.out.trans hX)
            obtain ⟨e1, e2, e3, e4⟩ := HW1.out
            have e4l : S2.1.left.length = 1 := by rw [e4]; rfl
            rw [e3, e4l] at hbs
            rw [e4] at hj5
            rw [e1, e2]
            obtain ⟨lb2, lo2, rfl, lc⟩ := hj5.1.head
            have s0 := hbs.cell 0 (v := .slice (some ⟨lb2, lo2, none⟩) 1 bc0) rfl
            have s5 := hbs.cell 5 (v := .bool false) rfl
            have sl := hbs.lt
            have ll := lt_of_cell lc
            simp only at ll
            clear hw9 x hX hj5 hbs e1 e2 e3 e4 e4l p0 p1 p2 p3 pl t0 tl hkp hgb HTH HPL HW1 h3'
            have t0 := HX9.out.cell HGB.out
            have tl := lt_of_cell t0
            simp only at tl t0
            have z0 := HX9.out.cell (CellsAt.fin (HPB.out ▸ HC3.out))
            rw [HP.out] at z0
            have zl := lt_of_cell z0
            simp only at zl
            have hpw := fun (x : Later w9) => pub_Worth b x.world (HQI.out b (by rw [HPB.out]; simp))
            simp only [HWB.out] at hpw
            have HPW := Lib.hid hpw
            have hpm' : (p : Int) < (m : Int) := by omega
            clear hpw
            go_upto_region 18 with fail
            refine wp_region_later (by kernel_rfl) (by kernel_rfl) ?_
            repeat (go_big_quiet_step (with_reducible refine Calls.later (HPW.out _)))
            refine wpQuiet_nil ?_
            intro w10 hw10
            obtain ⟨⟨w10, hx10⟩, rfl⟩ := hw10
            have HX10 := Lib.hid (HX9.out.trans hx10)
            clear hx10 s0 s5 sl lc ll t0 tl z0 zl HPW hpm'
            go_wp2
            go_roundw
            case rel => exact ⟨k + 1, by go_num, by omega, HX10.out⟩
            case measure => simp [intOf]; omega
          · have h3' : ((p : Int) % 3 == 0) = false := by simp; omega
            have hS2 := playS_cut (s := s) (g := g) (m := P) (b := b) (by omega) (by omega) (by rw [HP.out]; omega) (by rw [HP.out]; exact h3) (HPB.out ▸ HQ4.out) (HPB.out ▸ HQ3.out)
            rw [HP.out] at hS2
            obtain ⟨S2, hS⟩ : ∃ S, ((Gm.zero, ((p / 3 : Nat) : Int), 31) : Gm × Int × Int) = S := ⟨_, rfl⟩
            have hw1 : S2.2.1 = ((p / 3 : Nat) : Int) ∧ S2.2.2 = 31 := by
              rw [← hS]
              exact ⟨rfl, rfl⟩
            rw [hS] at hS2
            have HS2 := Lib.hid hS2
            have HW1 := Lib.hid hw1
            clear hS hS2 hw1 h3
            go_upto_region 20 with fail
            have p0 := ((HB2.out.ext HX8.out)).cell 0 (v := .slice (some ⟨kc, 0, none⟩) 1 1) rfl
            have p1 := ((HB2.out.ext HX8.out)).cell 1 (v := .int .i64 0) rfl
            have p2 := ((HB2.out.ext HX8.out)).cell 2 (v := .int .i64 0) rfl
            have p3 := ((HB2.out.ext HX8.out)).cell 3 (v := .bool false) rfl
            have pl := ((HB2.out.ext HX8.out)).lt
            have hkp : ¬ (w8.heap.size ≤ kp) := by omega
            have hgb : ¬ (w8.heap.size ≤ gb) := by omega
            have hth := fun W (hX : Ext w8 W) => pub_Thrown P (some ⟨qb, qo, none⟩) qc W ((CellsAt.pre (HPB.out ▸ HC3.out)).ext (HX8.out.trans hX)) (by rw [HP.out]; omega) (fun h => by cases h) ⟨by rw [HP.out]; omega, by unfold maxLen; exact h5⟩
            simp only [HP.out] at hth
            have HTH := Lib.hid hth
            have HPL := Lib.hid (fun W (hX : Ext w8 W) va vc base (hV : VisF W base (.slice va np vc) (visW P)) => play_one s g kc P va np vc base W ((HB1.out.ext HX8.out).ext hX) HNP.out hV (fun x hx => HQI.out x (by rw [HPB.out]; simp [hx])) (by rw [HP.out]; omega) S2 HS2.out)
            clear hth
            refine wp_region_calls (by kernel_rfl) [.no, .no, .no, .no, .no, .no, .no, .slc np, .of (PlyS S2) (plyW S2) (plyW_shape S2), .no, .no, .no, .no, .ptr, .any] w8.heap.size (fun c => max c.1.2.heap.size c.2.2.heap.size)
              (fun (c : (Nat × World) × (Nat × World)) L u => [bif L 7 then Res.snap c.1 else Res.none, bif L 7 then Res.pure (Ext w8 c.1.2 ∧ w8.heap.size ≤ c.1.1 ∧ VisF c.1.2 c.1.1 (u 7) (visW P)) else Res.none, bif L 8 then Res.snap c.2 else Res.none, bif L 8 then Res.pure (Ext w8 c.2.2 ∧ w8.heap.size ≤ c.2.1 ∧ PlyV S2 (u 8) c.2.1 c.2.2) else Res.none,
                bif L 13 then Res.blk (ptrAt (u 13)) (bif L 14 then #[aggAt 0 (aggAt 0 (u 8)), aggAt 1 (aggAt 0 (u 8)), aggAt 2 (aggAt 0 (u 8)), aggAt 3 (aggAt 0 (u 8)), aggAt 4 (aggAt 0 (u 8)), aggAt 5 (aggAt 0 (u 8)), aggAt 6 (aggAt 0 (u 8))] else #[.slice none 0 0, .slice none 0 0, .slice none 0 0, .int .i64 0, .int .i64 0, .bool false, .slice none 0 0]) else Res.none])
              ((0, w8), (0, w8)) (by kernel_rfl) (Nat.le_of_ble_eq_true rfl) (fun c L L' u hh => by simp only [hh 7 rfl, hh 8 rfl, hh 13 rfl, hh 14 rfl]) (by simp) (fun _ => Frm.nones _ 5 w8) ?_
            intro T hT hne u hu
            obtain ⟨bva, bvc, uV⟩ : ∃ a c, u 7 = .slice a np c := hu 7 rfl
            obtain ⟨ba0, ba1, ba2, ba3, bc0, bc1, bc2, bc3, uP⟩ : PlyS S2 (u 8) := hu 8 rfl
            obtain ⟨bk, uA⟩ : ∃ k, u 13 = .pointer (some ⟨k, 0, none⟩) := hu 13 rfl
            clear hu
            refine lx_next 7 (by rfl) (by decide) ?_
            dsimp only [List.take, List.drop]
            repeat (go_big_quiet_step (fail))
            refine wpQuiet_nil ?_
            refine lx_loud (by rfl) (by kernel_rfl) ?_ (fun K hK => ?_)
            · intro L w3 hL hd hcl hC hs
              obtain ⟨x, rfl⟩ := hC
              obtain ⟨c, hmc, hs⟩ := hs
              have hzs := x.size
              have h8 := hcl.off hL 40 8 (by kernel_rfl)
              have h14 := hcl.off hL 40 14 (by kernel_rfl)
              simp only [hL, h8, h14, cond_false] at hs
              have hX : Ext w8 x.world := Chg.to_ext (Ext.refl w8) x.chg (by rintro i ⟨_, h⟩; exact h)
              go_wp2_with fail
              refine (HTH.out _ hX).mono ?_
              rintro e w' ⟨v, rfl, ho, hx⟩
              have hsz' := hx.size
              have hmc2 : max c.1.2.heap.size c.2.2.heap.size ≤ x.world.heap.size := hmc
              have HO := Lib.hid ho
              obtain ⟨oa, oc, rfl⟩ := ho.shape
              rw [HNP.out] at HO ⊢
              clear ho
              go_wp2
              exact lik_call x (Nat.le_refl _) ⟨_, _, rfl⟩ hs 0 1 (by decide) rfl rfl hx ((x.world.heap.size, w'), c.2) (by show max w'.heap.size c.2.2.heap.size ≤ w'.heap.size; omega) (φ := Ext w8 w' ∧ w8.heap.size ≤ x.world.heap.size ∧ VisF w' x.world.heap.size _ (visW P)) ⟨hX.trans hx, hzs, HO.out⟩ (by first | (simp [upd, updv, h8, h14, hL]; done) | (simp [upd, updv, h8, h14, hL]; rfl))
            rw [uV]
            go_simp
            with_reducible refine hK _ ?_
            clear hK K
            refine lx_loud (by rfl) (by kernel_rfl) ?_ (fun K hK => ?_)
            · intro L w3 hL hd hcl hC hs
              obtain ⟨x, rfl⟩ := hC
              obtain ⟨c, hmc, hs⟩ := hs
              have hzs := x.size
              have h14 := hcl.off hL 40 14 (by kernel_rfl)
              have h7 := hd 7 (by kernel_rfl)
              simp only [hL, h14, h7, cond_true, cond_false] at hs
              rw [uV] at hs
              have hX : Ext w8 x.world := Chg.to_ext (Ext.refl w8) x.chg (by rintro i ⟨_, h⟩; exact h)
              have hmc2 : max c.1.2.heap.size c.2.2.heap.size ≤ x.world.heap.size := hmc
              have hp1 : Ext w8 c.1.2 ∧ w8.heap.size ≤ c.1.1 ∧ VisF c.1.2 c.1.1 (.slice bva np bvc) (visW P) := hs.get 1 rfl
              have HJ5 := Lib.hid (HPL.out x.world hX bva bvc _ (hp1.2.2.chgW (snap_chg (hs.get 0 rfl) hp1.1 hX (by omega)) (fun k hk => hk.2)))
              have HS5 := Lib.hid hs
              clear hp1 hs
              go_wp2_with fail
              refine HJ5.out.mono ?_
              rintro e w' ⟨v, rfl, hV, hx⟩
              have hsz' := hx.size
              have HSh := Lib.hid hV.shape
              have HV' := Lib.hid hV
              clear hV
              go_wp2
              exact lik_call x (Nat.le_refl _) HSh.out HS5.out 2 3 (by decide) rfl rfl hx (c.1, (x.world.heap.size, w')) (by show max c.1.2.heap.size w'.heap.size ≤ w'.heap.size; omega) (φ := Ext w8 w' ∧ w8.heap.size ≤ x.world.heap.size ∧ PlyV S2 _ x.world.heap.size w') ⟨hX.trans hx, hzs, HV'.out⟩ (by first | (simp [upd, updv, h14, h7, hL, uV]; done) | (simp [upd, updv, h14, h7, hL, uV]; rfl))
            rw [uP]
            go_simp
            with_reducible refine hK _ ?_
            clear hK K
            refine lx_next 4 (by rfl) (by decide) ?_
            dsimp only [List.take, List.drop]
            repeat (go_big_quiet_step (fail))
            refine wpQuiet_nil ?_
            refine lx_loud (by rfl) (by kernel_rfl) ?_ (fun K hK => ?_)
            · intro L w3 hL hd hcl hC hs
              obtain ⟨x, rfl⟩ := hC
              obtain ⟨c, hmc, hs⟩ := hs
              have hzs := x.size
              have h14 := hcl.off hL 40 14 (by kernel_rfl)
              simp only [hL, h14, cond_false] at hs
              go_wp2
              exact lik_set x (Nat.le_refl _) ⟨_, rfl⟩ hs 4 (r' := Res.blk x.world.heap.size #[.slice none 0 0, .slice none 0 0, .slice none 0 0, .int .i64 0, .int .i64 0, .bool false, .slice none 0 0]) rfl (((Ext.refl x.world).alloc _).chg _) (Blk.new _ _ _) (fun k hk => .inr (by rw [show k = x.world.heap.size from hk]; simp)) c hmc (by first | (simp [upd, updv, h14, hL]; done) | (simp [upd, updv, h14, hL]; rfl))
            rw [uA]
            go_simp
            with_reducible refine hK _ ?_
            clear hK K
            refine lx_loud (by rfl) (by kernel_rfl) ?_ (fun K hK => ?_)
            · intro L w3 hL hd hcl hC hs
              obtain ⟨x, rfl⟩ := hC
              obtain ⟨c, hmc, hs⟩ := hs
              have hzs := x.size
              have h13 := hd 13 (by kernel_rfl)
              have h8 := hd 8 (by kernel_rfl)
              simp only [hL, h13, h8, cond_true, cond_false] at hs
              rw [uA] at hs
              have hb : Blk x.world bk #[.slice none 0 0, .slice none 0 0, .slice none 0 0, .int .i64 0, .int .i64 0, .bool false, .slice none 0 0] := hs.get 4 rfl
              have hlt := hb.lt
              have q0 := hb.cell 0 (v := .slice none 0 0) rfl
              have f0 := hb.frozen 0
              have q1 := hb.cell 1 (v := .slice none 0 0) rfl
              have f1 := hb.frozen 1
              have q2 := hb.cell 2 (v := .slice none 0 0) rfl
              have f2 := hb.frozen 2
              have q3 := hb.cell 3 (v := .int .i64 0) rfl
              have f3 := hb.frozen 3
              have q4 := hb.cell 4 (v := .int .i64 0) rfl
              have f4 := hb.frozen 4
              have q5 := hb.cell 5 (v := .bool false) rfl
              have f5 := hb.frozen 5
              have q6 := hb.cell 6 (v := .slice none 0 0) rfl
              have f6 := hb.frozen 6
              go_wp2
              exact lik_set x (Nat.le_refl _) trivial hs 4 rfl (seven_chg (fun k => k = bk) _ rfl _ _ _ _ _ _ _) (r' := Res.blk bk #[.slice ba0 S2.1.left.length bc0, .slice ba1 S2.1.darts.length bc1, .slice ba2 S2.1.inn.length bc2, .int .i64 S2.1.next, .int .i64 S2.1.round, .bool S2.1.over, .slice ba3 S2.1.winners.length bc3]) (seven_set hb _ _ _ _ _ _ _) (fun _ hk => .inl hk) c hmc (by first | (simp [upd, updv, h13, h8, hL, uA, uP, aggAt, ptrAt]; done) | (simp [upd, updv, h13, h8, hL, uA, uP, aggAt, ptrAt]; rfl))
            go_simp
            with_reducible refine hK _ ?_
            clear hK K
            refine lx_next 2 (by rfl) (by decide) ?_
            dsimp only [List.take, List.drop]
            repeat (go_big_quiet_step (fail))
            refine wpQuiet_nil ?_
            refine lx_nil ?_
            intro x hs
            obtain ⟨c, hmc, hs⟩ := hs
            rw [uP, uA] at hs
            have hX : Ext w8 x.world := Chg.to_ext (Ext.refl w8) x.chg (by rintro i ⟨_, h⟩; exact h)
            have hmc2 : max c.1.2.heap.size c.2.2.heap.size ≤ x.world.heap.size := hmc
            have hp5 : Ext w8 c.2.2 ∧ w8.heap.size ≤ c.2.1 ∧ PlyV S2 (.tuple #[.agg #[.slice ba0 S2.1.left.length bc0, .slice ba1 S2.1.darts.length bc1, .slice ba2 S2.1.inn.length bc2, .int .i64 S2.1.next, .int .i64 S2.1.round, .bool S2.1.over, .slice ba3 S2.1.winners.length bc3], .int .i64 S2.2.1, .int .i64 S2.2.2]) c.2.1 c.2.2 := hs.get 3 rfl
            have hj5 := (hp5.2.2.chg (snap_chg (hs.get 2 rfl) hp5.1 hX (by omega)) (fun k hk => hk.2)).reads
            have hbs : Blk x.world bk #[.slice ba0 S2.1.left.length bc0, .slice ba1 S2.1.darts.length bc1, .slice ba2 S2.1.inn.length bc2, .int .i64 S2.1.next, .int .i64 S2.1.round, .bool S2.1.over, .slice ba3 S2.1.winners.length bc3] := hs.get 4 rfl
            clear hs hmc hmc2 hp5 hT hne uV uP uA
            obtain ⟨w9, hw9⟩ : ∃ y, x.world = y := ⟨_, rfl⟩
            rw [hw9] at hX hj5 hbs ⊢
            have HX9 := Lib.hid (HX8.out.trans hX)
            obtain ⟨e1, e2⟩ := HW1.out
            rw [e1, e2]
            have hd3 : (p : Int) / 3 = ((p / 3 : Nat) : Int) := by omega
            obtain ⟨p3', hp3'⟩ : ∃ y, p / 3 = y := ⟨_, rfl⟩
            rw [hp3'] at hd3 ⊢
            clear hw9 x hX hj5 hbs e1 e2 p0 p1 p2 p3 pl t0 tl hkp hgb HTH HPL HW1 h3' hp3'
            go_wp2
            go_roundw
            case rel => exact ⟨k + 1, by go_num, by omega, HX9.out⟩
            case measure => simp [intOf]; omega
        · have hk2' : ¬ (k : Int) < 200 := by omega
          have HP1 := Lib.hid pub_Out
          have HP2 := Lib.hid pub_Leg
          go_wp2_with fail
          refine (HP1.out _).mono ?_
          rintro e w6 ⟨rfl, hx6⟩
          go_wp2_with fail
          refine (HP2.out _).mono ?_
          rintro e w7 ⟨rfl, hx7⟩
          have HX7 := Lib.hid (((HX4.out.trans HX5.out).trans hx6).trans hx7)
          clear hx6 hx7
          go_wp2
          go_ret
          exact ⟨rfl, HX7.out⟩
      · have hkn' : ¬ (k : Int) < (n : Int) := by omega
        have HP1 := Lib.hid pub_Out
        have HP2 := Lib.hid pub_Leg
        go_wp2_with fail
        refine (HP1.out _).mono ?_
        rintro e w6 ⟨rfl, hx6⟩
        go_wp2_with fail
        refine (HP2.out _).mono ?_
        rintro e w7 ⟨rfl, hx7⟩
        have HX7 := Lib.hid (((HX4.out.trans HX5.out).trans hx6).trans hx7)
        clear hx6 hx7
        go_wp2
        go_ret
        exact ⟨rfl, HX7.out⟩
  · have HW := Lib.hid (out_WaysN bl ba bc g d s w2 HBC.out hRL.out (by omega) (by omega))
    clear ht0
    have he : errW (totO (rwsO g bl s d) s) = 7 ∨ errW (totO (rwsO g bl s d) s) = 5 := by unfold errW; split <;> simp
    obtain ⟨er, her⟩ : ∃ y, errW (totO (rwsO g bl s d) s) = y := ⟨_, rfl⟩
    rw [her] at HW he
    have HP1 := Lib.hid pub_Out
    have HP2 := Lib.hid pub_Leg
    clear ht her
    go_wp2_with fail
    refine HW.out.mono ?_
    rintro e w3 ⟨rfl, hx3⟩
    have HX3 := Lib.hid (HX2.out.trans hx3)
    clear hx3 HW q0 q1 q2 ql HX2
    rcases he with rfl | rfl
    · go_wp2_with fail
      refine (HP1.out _).mono ?_
      rintro e w4 ⟨rfl, hx4⟩
      go_wp2_with fail
      refine (HP2.out _).mono ?_
      rintro e w5 ⟨rfl, hx5⟩
      have HX5 := Lib.hid ((HX3.out.trans hx4).trans hx5)
      clear hx4 hx5
      go_wp2
      go_ret
      exact ⟨rfl, HX5.out⟩
    · go_wp2_with fail
      refine (HP1.out _).mono ?_
      rintro e w4 ⟨rfl, hx4⟩
      go_wp2_with fail
      refine (HP2.out _).mono ?_
      rintro e w5 ⟨rfl, hx5⟩
      have HX5 := Lib.hid ((HX3.out.trans hx4).trans hx5)
      clear hx4 hx5
      go_wp2
      go_ret
      exact ⟨rfl, HX5.out⟩
end Go.Proofs.Ytpifdeglhalefaa
