/-
  TopFewestDarts: the walk.
-/
import Derived.Test.YtpifdeglhalefaaFdb
import Derived.Test.YtpifdeglhalefaaFdr
namespace Go.Proofs.Ytpifdeglhalefaa
open Go.RowKit Go.BigFrame
attribute [local go_sem] Later.cell Later.frozen Lat.cell Lat.frozen
def BdsV (bl : List Int) (v : Value) (s : Nat) (w : World) : Prop := w.ownsRow s 33 1 v bl.length (bl.map (Value.int .i64))
theorem BdsV.chg {bl : List Int} {v : Value} {s : Nat} {w w' : World} (h : BdsV bl v s w) {S : Nat → Prop} (hx : Chg S w w') (hS : ∀ k, S k → k < s) : BdsV bl v s w' := own_chg h hx (fun k hk hs => by have := hS k hs; have := (World.ownsRow.lt h k hk).1; omega)
theorem BdsV.cells {bl : List Int} {a : Option Addr} {n c : Nat} {s : Nat} {w : World} (h : BdsV bl (.slice a n c) s w) : CellsAt w .i64 a bl := fun i hi => by
  obtain ⟨a', c', e⟩ := own_shape h
  cases e
  obtain ⟨b, rfl, hb⟩ := own_cellsM h (by omega)
  exact ⟨b, 0, rfl, by simpa using hb i (.int .i64 bl[i]) (by simp [hi])⟩
theorem three_set {w : World} {b : Nat} {v0 v1 v2 : Value} (h : Blk w b #[v0, v1, v2]) (x0 x1 x2 : Value) : Blk (((w.setCell ⟨b, 0, none⟩ x0).setCell ⟨b, 1, none⟩ x1).setCell ⟨b, 2, none⟩ x2) b #[x0, x1, x2] := by
  have h0 : Blk _ b #[x0, v1, v2] := h.set 0 x0
  have h1 : Blk _ b #[x0, x1, v2] := h0.set 1 x1
  have h2 : Blk _ b #[x0, x1, x2] := h1.set 2 x2
  exact h2
theorem three_chg (S : Nat → Prop) (w : World) {b : Nat} (hb : S b) (x0 x1 x2 : Value) : Chg S w (((w.setCell ⟨b, 0, none⟩ x0).setCell ⟨b, 1, none⟩ x1).setCell ⟨b, 2, none⟩ x2) := (((Chg.refl S w).setCell (.inr hb) x0).setCell (.inr hb) x1).setCell (.inr hb) x2
/-- Ways in memory. -/
def WaysAt (W : World) (a : Option Addr) (ws : List (List Int)) : Prop := ∀ i (h : i < ws.length), ∃ gb qa qc, a = some ⟨gb, 0, none⟩ ∧ W.cell? ⟨gb, i, none⟩ = some (.slice qa ws[i].length qc) ∧ CellsAt W .i64 qa ws[i] ∧ ws[i].length ≤ qc ∧ qc ≤ maxLen
theorem WaysAt.ext {W W' : World} {a : Option Addr} {ws : List (List Int)} (h : WaysAt W a ws) (hx : Ext W W') : WaysAt W' a ws := fun i hi => let ⟨gb, qa, qc, h1, h2, h3, h4⟩ := h i hi; ⟨gb, qa, qc, h1, hx.cell h2, h3.ext hx, h4⟩
theorem CellsAt.pre {w : World} {a : Option Addr} {P : List Int} {b : Int} (h : CellsAt w .i64 a (P ++ [b])) : CellsAt w .i64 a P := fun i hi => by
  obtain ⟨b', o, e, hc⟩ := h i (by simp; omega)
  rw [List.getElem_append_left hi] at hc
  exact ⟨b', o, e, hc⟩
theorem CellsAt.fin {w : World} {b0 o0 : Nat} {P : List Int} {b : Int} (h : CellsAt w .i64 (some ⟨b0, o0, none⟩) (P ++ [b])) : w.cell? ⟨b0, o0 + P.length, none⟩ = some (.int .i64 b) := by
  obtain ⟨b', o, e, hc⟩ := h P.length (by simp)
  cases e
  simpa using hc
theorem CellsAt.head {w : World} {a : Option Addr} {x : Int} (h : CellsAt w .i64 a [x]) : ∃ b o, a = some ⟨b, o, none⟩ ∧ w.cell? ⟨b, o, none⟩ = some (.int .i64 x) := by
  obtain ⟨b, o, e, hc⟩ := h 0 (by simp)
  exact ⟨b, o, e, by simpa using hc⟩
theorem WysR.at_ {W : World} {base n c : Nat} {a : Option Addr} {ws : List (List Int)} (h : WysR W base (.slice a n c) ws) (i : Nat) (hi : i < ws.length) : ∃ gb qa qc, a = some ⟨gb, 0, none⟩ ∧ W.cell? ⟨gb, i, none⟩ = some (.slice qa ws[i].length qc) ∧ CellsAt W .i64 qa ws[i] ∧ ws[i].length ≤ qc ∧ qc ≤ maxLen := by
  obtain ⟨vals, h1, h2, h3⟩ := h
  obtain ⟨a', c', e⟩ := own_shape h1
  cases e
  obtain ⟨gb, rfl, hb⟩ := own_cellsM h1 (by omega)
  obtain ⟨qa, qc, h4, h5, -, h6, h7⟩ := h3 i hi
  exact ⟨gb, qa, qc, rfl, hb i _ h4, h5, h6, h7⟩
theorem VisP.mono {w : World} {base base' : Nat} {p : Nat → Prop} {v : Value} {l : List LV} (h : VisP w base p v l) (hb : base' ≤ base) : VisP w base' p v l :=
  let ⟨us, h1, h2, h3, h4⟩ := h; ⟨us, h1, own_mono h2 hb, h3, fun i hi => let ⟨a, c, h5, h6, h7⟩ := h4 i hi; ⟨a, c, h5, own_mono h6 hb, h7⟩⟩
def slcAt : Value → Nat
  | .slice (some ⟨k, _, _⟩) _ _ => k
  | _ => 0
/-- A leg of one's own player, of any visits. -/
theorem play_gen (s g : Int) (kc : Nat) (V : List LV) (va : Option Addr) (vc base : Nat) (w : World) (hC : Blk w kc #[.int .i64 s, .int .i64 0, .int .i64 g]) (nv : Nat) (hn : V.length = nv) (hV : VisF w base (.slice va nv vc) V) (hf : ∀ v ∈ V, v.fits) (hq : nv ≤ 1000) (S : Gm × Int × Int) (hS : playS (oneR s g) V = S) :
    Calls Try.prog 16 #[.agg #[.slice (some ⟨kc, 0, none⟩) 1 1, .int .i64 0, .int .i64 0, .bool false], .slice va nv vc] w fun e w' => ∃ v, e = .returned v ∧ PlyV S v w.heap.size w' ∧ Ext w w' := by
  subst hn
  have hc : CntsAt w (some ⟨kc, 0, none⟩) (oneR s g).counts := fun i hi => by
    have : i = 0 := by have h1 : (oneR s g).counts.length = 1 := rfl; omega
    subst this
    exact ⟨kc, 0, rfl, hC.cell 0 rfl, hC.cell 1 rfl, hC.cell 2 rfl⟩
  refine (leg_Play (oneR s g) (some ⟨kc, 0, none⟩) 1 V va vc w hc (show 1 ≤ _ by decide) hV.at_ hf (by omega) S hS).mono ?_
  rintro e w' ⟨v, rfl, hst, hx⟩
  exact ⟨_, rfl, ⟨v, rfl, hst⟩, hx⟩
end Go.Proofs.Ytpifdeglhalefaa
namespace Go.Proofs.Ytpifdeglhalefaa
open Go.RowKit Go.BigFrame
attribute [local go_sem] Later.cell Later.frozen Lat.cell Lat.frozen
theorem VisP.keep {w w' : World} {base : Nat} {p S : Nat → Prop} {v : Value} {l : List LV} (h : VisP w base p v l) (hx : Chg S w w') (hS : ∀ k, p k → ¬ S k) : VisP w' base p v l :=
  let ⟨us, h1, h2, h3, h4⟩ := h; ⟨us, h1, own_chg h2 hx fun k hk => hS k (h3 k hk), h3, fun i hi => let ⟨a, c, h5, h6, h7⟩ := h4 i hi; ⟨a, c, h5, own_chg h6 hx fun k hk => hS k (h7 k hk), h7⟩⟩
theorem VisP.shape {w : World} {base : Nat} {p : Nat → Prop} {v : Value} {l : List LV} (h : VisP w base p v l) : ∃ a c, v = .slice a l.length c := let ⟨_, _, h2, _⟩ := h; own_shape h2
theorem visP_snoc {w w' : World} {base : Nat} {p : Nat → Prop} {ov nv : Value} {l : List LV} {us : List Value} {lv : LV} {a : Option Addr} {c : Nat} (u1 : us.length = l.length) (u2 : w.ownsRow base 62 2 ov l.length (cellsV l us)) (u4 : ∀ i (h : i < l.length), ∃ a c, us[i]? = some (.slice a l[i].beds.length c) ∧ w.ownsRow base 33 1 (.slice a l[i].beds.length c) l[i].beds.length (l[i].beds.map (Value.int .i64)) ∧ ∀ k, (Value.slice a l[i].beds.length c).ownBlock = some k → p k)
    (hb : w.ownsRow base 33 1 (.slice a lv.beds.length c) lv.beds.length (lv.beds.map (Value.int .i64))) (hp : ∀ k, (Value.slice a lv.beds.length c).ownBlock = some k → p k) (hrow : w'.ownsRow base 62 2 nv (l.length + 1) (cellsV l us ++ [.int .i64 lv.player, .slice a lv.beds.length c])) (hC : Chg (fun k => ov.ownBlock = some k) w w') (hn : ∀ k, nv.ownBlock = some k → p k) : VisP w' base p nv (l ++ [lv]) := by
  refine ⟨us ++ [.slice a lv.beds.length c], by simp [u1], by rw [cellsV_snoc _ _ _ _ u1, List.length_append]; exact hrow, hn, fun i hi => ?_⟩
  by_cases hlt : i < l.length
  · obtain ⟨a', c', h4, h5, h6⟩ := u4 i hlt
    rw [List.getElem_append_left hlt, List.getElem?_append_left (by omega)]
    exact ⟨a', c', h4, own_chg h5 hC (typesV u2 h5 (by decide)), h6⟩
  · have : i = l.length := by simp at hi; omega
    subst this
    rw [List.getElem_append_right (Nat.le_refl _), List.getElem?_append_right (by omega)]
    simp only [u1, Nat.sub_self]
    exact ⟨a, c, by simp, own_chg hb hC (typesV u2 hb (by decide)), hp⟩
/-- What the state says of a leg. -/
structure StE (g : Int) (bl : List Int) (s : Nat) (ov : Bool) (v0 v1 : Value) (w : World) (lb lo lc db dk dc y : Nat) (D : Int) : Prop where
  e0 : v0 = .slice (some ⟨lb, lo, none⟩) 1 lc
  e1 : v1 = .slice (some ⟨db, dk, none⟩) 1 dc
  left : w.cell? ⟨lb, lo, none⟩ = some (.int .i64 y)
  darts : w.cell? ⟨db, dk, none⟩ = some (.int .i64 D)
  le : y ≤ s
  over : ov = decide ((y : Int) = 0)
  few : (y : Int) = 0 → fewA g bl s ≠ -1 ∧ fewA g bl s ≤ D
  never : fewA g bl s = -1 → fewA g bl y = -1
/-- Between two visits. -/
structure OutF (g : Int) (bl : List Int) (s : Nat) (w2 : World) (K10 k : Nat) (L : List LV) (G : Gm) (x d : Int) (ov : Bool) (v0 v1 v2 v3 v4 v6 lv : Value) (wr : World) : Prop where
  le : k ≤ 60
  len : L.length = k
  vis : VisP wr w2.heap.size (fun b => b ≠ K10) lv L
  st : Blk wr K10 #[v0, v1, v2, v3, v4, .bool ov, v6]
  fits : ∀ v ∈ L, v.fits ∧ v.beds.length ≤ 3
  goes : ov = false → ∃ j, LegF g bl s L G x d j
  zero : k = 0 → ov = false
  last : 0 < k → ∃ lb lo lc db dk dc y D, StE g bl s ov v0 v1 wr lb lo lc db dk dc y D
  ext : Ext w2 wr
/-- Between two darts. -/
structure InF (g : Int) (bl : List Int) (s : Nat) (x d : Int) (w4 w5 : World) (K12 j : Nat) (ds : List Int) (t : Thr) (bv : Value) (wr : World) : Prop where
  len : ds.length = j
  vst : VstF g bl s d x ds t
  row : wr.ownsRow w5.heap.size 33 1 bv j (ds.map (Value.int .i64))
  blk : Blk wr K12 #[.int .i64 0, bv]
  beds : ∀ b ∈ ds, I64 b
  ext : Ext w4 wr
  size : w5.heap.size ≤ wr.heap.size
set_option maxRecDepth 100000 in
set_option maxHeartbeats 8000000 in
theorem fewest_darts (l h : List Int) (a ha : Option Addr) (c hcap x0 x1 x2 : Nat) (w : World) (hla : CellsAt w .u8 a l) (hl : l.length ≤ 9223372036854775807) (hr : ∀ x ∈ l, 0 ≤ x ∧ x ≤ 255) (hlh : CellsAt w .u8 ha h) (hhl : h.length ≤ 9223372036854775807) (hhr : ∀ x ∈ h, 0 ≤ x ∧ x ≤ 255) (hx0 : x0 < 256) (hx1 : x1 < 256) :
    Calls Try.prog 4 #[.slice a l.length c, .slice ha h.length hcap, .agg #[.int .u8 x0, .int .u8 x1, .int .u8 x2]] w fun e w' => e = .returned (.bool true) ∧ Ext w w' := by
  obtain ⟨bl, hbl⟩ : ∃ y, pbL l 30 = y := ⟨_, rfl⟩
  obtain ⟨g, hg⟩ : ∃ y : Int, (x1 : Int) % 3 = y := ⟨_, rfl⟩
  obtain ⟨s, hs⟩ : ∃ y : Nat, 2 + (x0 : Int) = (y : Int) := ⟨2 + x0, by omega⟩
  have hg3 : 0 ≤ g ∧ g ≤ 2 := by omega
  have hs3 : 2 ≤ s ∧ s ≤ 257 := by omega
  obtain ⟨hg0, hg2⟩ := hg3
  obtain ⟨hs2, hs3⟩ := hs3
  have HG := Lib.hid hg
  have HS := Lib.hid hs
  have HG3 : Hid (g = 0 ∨ g = 1 ∨ g = 2) := Lib.hid (by omega)
  have HBI := Lib.hid (fun x (hx : x ∈ pbL l 30) => pbL_bed hr hx)
  have HBLL := Lib.hid (pbL_len (l := l) (most := 30) hr)
  have HRL : Hid (∀ darts : Int, 1 ≤ darts ∧ darts ≤ 9 → rulO (pbL l 30) g darts = true) := Lib.hid (fun darts hd => pbL_rul (l := l) (most := 30) (g := g) (darts := darts) hr ⟨hg0, hg2⟩ hd)
  obtain ⟨w1, hw1⟩ : ∃ y, y = w.alloc (.cells #[.int .u8 x0, .int .u8 x1, .int .u8 x2] 51) := ⟨_, rfl⟩
  have hx : Ext w w1 := by rw [hw1]; exact (Ext.refl w).alloc _
  have hB4 : Blk w1 w.heap.size #[.int .u8 x0, .int .u8 x1, .int .u8 x2] := by rw [hw1]; exact Blk.new _ _ _
  have HPB := Lib.hid (fun W (hX : Ext w1 W) => pub_Beds l a c 30 W ((hla.ext hx).ext hX) hl hr (by omega))
  have HBY := Lib.hid (fun W (hX : Ext w W) (i : Nat) (hi : i ≤ 1000000) => pub_Byte h ha hcap i W (hlh.ext hX) hhl hhr hi)
  have HBR := Lib.hid (fun i => bytW_in hhr i)
  rw [hbl] at HPB HRL HBI HBLL
  have HBW : Hid (∀ b ∈ bl, BedW g b) := Lib.hid (fun b hb => bed_w HG3.out (HBI.out b hb))
  have c0 := hB4.cell 0 (v := .int .u8 x0) rfl
  have c1 := hB4.cell 1 (v := .int .u8 x1) rfl
  have cl := hB4.lt
  have HX1 := Lib.hid hx
  have HW1 := Lib.hid hw1
  clear hla hl hx hB4 hbl hg hs hr hw1 hlh hhl hhr
  have hlo4 : ¬ (w1.heap.size ≤ w.heap.size) := by omega
  go_enter Try.func4, Try.ntmps4
  go_upto_region 1 with fail
  rw [← HW1.out]
  refine wp_region_calls (by kernel_rfl) [.no, .slc bl.length, .no, .no, .no, .no, .no, .no, .no, .no, .no, .ptr, .no, .any] w1.heap.size (fun c => c.2.heap.size)
    (fun (c : Nat × World) L u => [bif L 1 then Res.snap c else Res.none, bif L 1 then Res.pure (Ext w1 c.2 ∧ w1.heap.size ≤ c.1 ∧ BdsV bl (u 1) c.1 c.2) else Res.none, bif L 11 then Res.blk (ptrAt (u 11)) (bif L 13 then #[.int .i64 (2 + (x0 : Int)), .int .i64 0, .int .i64 ((x1 : Int) % 3)] else #[.int .i64 0, .int .i64 0, .int .i64 0]) else Res.none])
    (0, w1) (by kernel_rfl) (Nat.le_of_ble_eq_true rfl) (fun c L L' u hh => by simp only [hh 1 rfl, hh 11 rfl, hh 13 rfl]) (Nat.le_refl _) (fun _ => Frm.nones _ 3 w1) ?_
  intro T hT hne u hu
  obtain ⟨ba, bc, u1⟩ : ∃ a c, u 1 = .slice a bl.length c := hu 1 rfl
  obtain ⟨kr, u11⟩ : ∃ k, u 11 = .pointer (some ⟨k, 0, none⟩) := hu 11 rfl
  clear hu
  refine lx_next 1 (by rfl) (by decide) ?_
  dsimp only [List.take, List.drop]
  repeat (go_big_quiet_step (fail))
  refine wpQuiet_nil ?_
  refine lx_loud (by rfl) (by kernel_rfl) ?_ (fun K hK => ?_)
  · intro L w3 hL hd hcl hC hs
    obtain ⟨x, rfl⟩ := hC
    obtain ⟨c, hmc, hs⟩ := hs
    have hzs := x.size
    have h13 := hcl.off hL 40 13 (by kernel_rfl)
    simp only [hL, h13, cond_false] at hs
    have hX : Ext w1 x.world := Chg.to_ext (Ext.refl w1) x.chg (by rintro i ⟨_, h⟩; exact h)
    go_wp2_with fail
    refine (HPB.out _ hX).mono ?_
    rintro e w' ⟨v, rfl, ho, hx⟩
    have hsz' := hx.size
    obtain ⟨oa, oc, rfl⟩ := own_shape ho
    go_wp2
    exact lik_call x (Nat.le_refl _) ⟨_, _, rfl⟩ hs 0 1 (by decide) rfl rfl hx (x.world.heap.size, w') (Nat.le_refl _) (φ := Ext w1 w' ∧ w1.heap.size ≤ x.world.heap.size ∧ BdsV bl _ x.world.heap.size w') ⟨hX.trans hx, hzs, ho⟩ (by first | (simp [upd, updv, h13, hL]; done) | (simp [upd, updv, h13, hL]; rfl))
  rw [u1]
  go_simp
  with_reducible refine hK _ ?_
  clear hK K
  refine lx_next 9 (by rfl) (by decide) ?_
  dsimp only [List.take, List.drop]
  repeat (go_big_quiet_step (fail))
  refine wpQuiet_nil ?_
  refine lx_loud (by rfl) (by kernel_rfl) ?_ (fun K hK => ?_)
  · intro L w3 hL hd hcl hC hs
    obtain ⟨x, rfl⟩ := hC
    obtain ⟨c, hmc, hs⟩ := hs
    have hzs := x.size
    have h13 := hcl.off hL 40 13 (by kernel_rfl)
    simp only [hL, h13, cond_false] at hs
    go_wp2
    exact lik_set x (Nat.le_refl _) ⟨_, rfl⟩ hs 2 (r' := Res.blk x.world.heap.size #[.int .i64 0, .int .i64 0, .int .i64 0]) rfl (((Ext.refl x.world).alloc _).chg _) (Blk.new _ _ _) (fun k hk => .inr (by rw [show k = x.world.heap.size from hk]; simp)) c hmc (by first | (simp [upd, updv, h13, hL]; done) | (simp [upd, updv, h13, hL]; rfl))
  rw [u11]
  go_simp
  with_reducible refine hK _ ?_
  clear hK K
  refine lx_next 1 (by rfl) (by decide) ?_
  dsimp only [List.take, List.drop]
  repeat (go_big_quiet_step (fail))
  refine wpQuiet_nil ?_
  refine lx_loud (by rfl) (by kernel_rfl) ?_ (fun K hK => ?_)
  · intro L w3 hL hd hcl hC hs
    obtain ⟨x, rfl⟩ := hC
    obtain ⟨c, hmc, hs⟩ := hs
    have hzs := x.size
    have h1 := hd 1 (by kernel_rfl)
    have h11 := hd 11 (by kernel_rfl)
    simp only [hL, h1, h11, cond_true, cond_false] at hs
    rw [u11] at hs
    have hb : Blk x.world kr #[.int .i64 0, .int .i64 0, .int .i64 0] := hs.get 2 rfl
    have hlt := hb.lt
    have q0 := hb.cell 0 (v := .int .i64 0) rfl
    have q1 := hb.cell 1 (v := .int .i64 0) rfl
    have q2 := hb.cell 2 (v := .int .i64 0) rfl
    have f0 := hb.frozen 0
    have f1 := hb.frozen 1
    have f2 := hb.frozen 2
    go_wp2
    exact lik_set x (Nat.le_refl _) trivial hs 2 rfl (three_chg (fun k => k = kr) _ rfl _ _ _) (r' := Res.blk kr #[.int .i64 (2 + (x0 : Int)), .int .i64 0, .int .i64 ((x1 : Int) % 3)]) (three_set hb _ _ _) (fun _ hk => .inl hk) c hmc (by first | (simp [upd, updv, h1, h11, hL, u11, u1, ptrAt]; done) | (simp [upd, updv, h1, h11, hL, u11, u1, ptrAt]; rfl))
  go_simp
  with_reducible refine hK _ ?_
  clear hK K
  refine lx_nil ?_
  intro x hs
  obtain ⟨c, hmc, hs⟩ := hs
  rw [u1, u11] at hs
  have hX : Ext w1 x.world := Chg.to_ext (Ext.refl w1) x.chg (by rintro i ⟨_, h⟩; exact h)
  have hmc2 : c.2.heap.size ≤ x.world.heap.size := hmc
  have hp1 : Ext w1 c.2 ∧ w1.heap.size ≤ c.1 ∧ BdsV bl (.slice ba bl.length bc) c.1 c.2 := hs.get 1 rfl
  have hj1 := hp1.2.2.chg (snap_chg (hs.get 0 rfl) hp1.1 hX (by omega)) (fun k hk => hk.2)
  have hbs : Blk x.world kr #[.int .i64 (2 + (x0 : Int)), .int .i64 0, .int .i64 ((x1 : Int) % 3)] := hs.get 2 rfl
  have hbc := hj1.cells
  clear hs hmc hmc2 hp1 hT hne u1 u11 hj1
  obtain ⟨w2, hw2⟩ : ∃ y, x.world = y := ⟨_, rfl⟩
  rw [hw2] at hX hbs hbc ⊢
  rw [HG.out, HS.out] at hbs
  clear hw2 x c0 c1 cl hlo4 HPB HW1
  have HX2 := Lib.hid (HX1.out.trans hX)
  have HBS := Lib.hid hbs
  have HBC := Lib.hid hbc
  clear hX hbs hbc HX1
  go_upto_region 3 with fail
  obtain ⟨w3, hw3⟩ : ∃ y, y = (w2.alloc (.cells #[] 62)).alloc (.cells #[.slice none 0 0, .slice none 0 0, .slice none 0 0, .int .i64 0, .int .i64 0, .bool false, .slice none 0 0] 60) := ⟨_, rfl⟩
  rw [← hw3]
  have hx3 : Ext w2 w3 := by rw [hw3]; exact ((Ext.refl w2).alloc _).alloc _
  have hv3 : VisP w3 w2.heap.size (fun b => b ≠ w2.heap.size + 1) (.slice (some ⟨w2.heap.size, 0, none⟩) 0 0) [] := ⟨[], rfl, by rw [hw3]; exact own_chg (own_empty rfl (Nat.le_refl _)) (((Ext.refl _).alloc _).chg fun _ => False) fun _ _ => id, fun k hk => by rw [← own_blkW hk]; omega, fun i hi => absurd hi (by simp)⟩
  have hb3 : Blk w3 (w2.heap.size + 1) #[.slice none 0 0, .slice none 0 0, .slice none 0 0, .int .i64 0, .int .i64 0, .bool false, .slice none 0 0] := by rw [hw3]; exact Blk.at _ (by simp)
  obtain ⟨K10, hK10⟩ : ∃ y, y = w2.heap.size + 1 := ⟨_, rfl⟩
  rw [← hK10] at hv3 hb3 ⊢
  have HO3 : Hid (OutF g bl s w2 K10 0 [] (.begin (oneR s g)) s 0 false (.slice none 0 0) (.slice none 0 0) (.slice none 0 0) (.int .i64 0) (.int .i64 0) (.slice none 0 0) (.slice (some ⟨w2.heap.size, 0, none⟩) 0 0) w3) := Lib.hid ⟨by omega, rfl, hv3, hb3, fun v hv => by (cases hv), fun _ => ⟨0, LegF.begin (by omega) HG3.out⟩, fun _ => rfl, fun hk => by omega, hx3⟩
  have HK10 : Hid (w2.heap.size ≤ K10) := Lib.hid (by omega)
  clear hw3 hx3 hv3 hb3 hK10
  obtain ⟨l0, hl0⟩ : ∃ y : Value, (.slice (some ⟨w2.heap.size, 0, none⟩) 0 0) = y := ⟨_, rfl⟩
  rw [hl0] at HO3 ⊢
  clear hl0
  go_upto_region 4 with fail
  rename_i K0 b0
  go_loopw [9, 11] (fun lv iv wr => ∃ (k : Nat) (L : List LV) (G : Gm) (x d : Int) (ov : Bool) (v0 v1 v2 v3 v4 v6 : Value), iv = .int .i64 (k : Nat) ∧ OutF g bl s w2 K10 k L G x d ov v0 v1 v2 v3 v4 v6 lv wr) (fun _ iv _ => 60 - (intOf iv).toNat)
  case atStart => exact ⟨0, _, _, _, _, _, _, _, _, _, _, _, rfl, HO3.out⟩
  case round =>
    rename_i lv iv
    obtain ⟨k, L0, G, lx, ld, ov, v0, v1, v2, v3, v4, v6, rfl, hO⟩ := hrel
    obtain ⟨w4, rfl⟩ : ∃ y, y = wr := ⟨_, rfl⟩
    have HO := Lib.hid hO
    have hk60 := hO.le
    clear hO HO3
    obtain ⟨oa, oc, e⟩ := HO.out.vis.shape
    rw [HO.out.len] at e
    subst e
    have s5 := HO.out.st.cell 5 (v := .bool ov) rfl
    have sl := HO.out.st.lt
    have hrest : ov = true ∨ ¬ k < 60 → 0 < k := fun e => by
      rcases e with e | e
      · by_cases h0 : k = 0
        · rw [HO.out.zero h0] at e
          cases e
        · omega
      · omega
    by_cases hk : k < 60
    · have hk' : (k : Int) < 60 := by omega
      cases ov
      · obtain ⟨jr, hLF⟩ := HO.out.goes rfl
        have HLF := Lib.hid hLF
        clear hLF hrest
        go_upto_region 7 with fail
        clear s5 sl
        obtain ⟨w5, hw5⟩ : ∃ y, y = w4.alloc (.cells #[.int .i64 0, .slice none 0 0] 62) := ⟨_, rfl⟩
        obtain ⟨K12, hK12⟩ : ∃ y, y = w4.heap.size := ⟨_, rfl⟩
        rw [← hw5, ← hK12]
        have HX5 : Hid (Ext w4 w5) := Lib.hid (by rw [hw5]; exact (Ext.refl w4).alloc _)
        have HSZ5 : Hid (w5.heap.size = w4.heap.size + 1) := Lib.hid (by rw [hw5]; simp)
        have HK12 := Lib.hid hK12
        have HI0 : Hid (InF g bl s lx ld w4 w5 K12 0 [] ⟨lx, 0, 0, true, false, false⟩ (.slice none 0 0) w5) := Lib.hid ⟨rfl, VstF.nil HLF.out.rel HLF.out.left.1, World.ownsRow_nil _ _ _ _, by rw [hw5, hK12]; exact Blk.new _ _ _, fun b hb => by (cases hb), HX5.out, Nat.le_refl _⟩
        clear hw5 hK12
        go_upto_region 8 with fail
        go_loopw [13] (fun iv wr => ∃ (j : Nat) (ds : List Int) (t : Thr) (bv : Value), iv = .int .i64 (j : Nat) ∧ InF g bl s lx ld w4 w5 K12 j ds t bv wr) (fun iv _ => 3 - (intOf iv).toNat)
        case atStart => exact ⟨0, _, _, _, rfl, HI0.out⟩
        case round =>
          rename_i iv
          obtain ⟨j, ds, t, bv, rfl, hI⟩ := hrel
          obtain ⟨w6, rfl⟩ : ∃ y, y = wr := ⟨_, rfl⟩
          have HI := Lib.hid hI
          have hj3 : j < 3 := by rw [← hI.len]; exact hI.vst.len
          clear hI HI0
          have hj3' : (j : Int) < 3 := by omega
          go_wp2_with fail
          rw [show 3 * (k : Int) + (j : Int) = ((3 * k + j : Nat) : Int) by omega]
          refine (HBY.out w6 (HX2.out.trans (HO.out.ext.trans HI.out.ext)) (3 * k + j) (by omega)).mono ?_
          rintro e w7 ⟨rfl, hx7⟩
          have HX67 := Lib.hid hx7
          have hbr := HBR.out (3 * k + j)
          obtain ⟨n, hn⟩ : ∃ y, bytW h (3 * k + j) = y := ⟨_, rfl⟩
          rw [hn] at hbr ⊢
          obtain ⟨hbr0, hbr1⟩ := hbr
          have HX7 : Hid (Ext w2 w7) := Lib.hid (HO.out.ext.trans (HI.out.ext.trans hx7))
          clear hx7 hn
          go_upto_if 59 with fail
          go_cut [14] from 60 to 66 (fun bv wx => wx = w7 ∧ ∃ b : Int, bv = .int .i64 b ∧ (b = 0 ∨ b ∈ bl))
          case first =>
            by_cases hn40 : 40 ≤ n
            · have hbp := HBLL.out.1
              have hbp' : (0 : Int) < (bl.length : Int) := by omega
              have hbz : ((bl.length : Int) == 0) = false := beq_eq_false_iff_ne.2 (by omega)
              obtain ⟨nn, rfl⟩ := Int.eq_ofNat_of_zero_le hbr0
              have hmod : (nn : Int) % (bl.length : Int) = ((nn % bl.length : Nat) : Int) := by push_cast; rfl
              have hml := Nat.mod_lt nn hbp
              obtain ⟨q, hq⟩ : ∃ y, nn % bl.length = y := ⟨_, rfl⟩
              rw [hq] at hmod hml
              obtain ⟨qb, qo, rfl, q0⟩ := (HBC.out.ext HX7.out) q hml
              have ql := lt_of_cell q0
              simp only at ql
              have HMEM := Lib.hid (List.getElem_mem hml)
              obtain ⟨b, hb⟩ : ∃ y, bl[q] = y := ⟨_, rfl⟩
              rw [hb] at q0 HMEM
              have hml' : (q : Int) < (bl.length : Int) := by omega
              clear hq hb
              go_wp2
              go_meet
              exact ⟨rfl, b, rfl, .inr HMEM.out⟩
            · go_wp2
              go_meet
              exact ⟨rfl, 0, rfl, .inl rfl⟩
          case rest =>
            obtain ⟨hwc, b, rfl, hb⟩ := hcut
            subst hwc
            have HB := Lib.hid hb
            clear hb hbr0 hbr1
            have HBK7 := Lib.hid (HI.out.blk.ext HX67.out)
            obtain ⟨ba2, bc2, rfl⟩ := own_shape HI.out.row
            have HSZ7 : Hid (w5.heap.size ≤ wc.heap.size) := Lib.hid (Nat.le_trans HI.out.size HX67.out.size)
            have x1' := HBK7.out.cell 1 (v := .slice ba2 j bc2) rfl
            have xf1 := HBK7.out.frozen 1
            have xl := HBK7.out.lt
            have HROW := Lib.hid (own_chg HI.out.row ((HX67.out.trans ((Ext.refl wc).alloc (.cells #[.int .i64 b] 33))).chg fun _ => False) (fun _ _ => id))
            go_wp2_with (at_builtin; refine wp_append_from rfl _ _ 52 33 _ 1 8 rfl info_bedW (by kernel_rfl) rfl (by decide) w5.heap.size (.slice ba2 j bc2) j (ds.map (Value.int .i64)) rfl HROW.out (some ⟨wc.heap.size, 0, none⟩) 1 1 [.int .i64 b] rfl (fun h => by cases h) rfl ?_ ?_ (by omega) (by omega) (by have := HSZ7.out; simp; omega) ?_)
            · intro ad had j' u hj
              cases had
              match j', hj with
              | 0, hj => cases hj; rw [addr_add]; exact (Blk.new wc _ _).cell 0 rfl
            · intro u hu
              simp only [List.mem_cons, List.not_mem_nil, or_false] at hu
              rcases hu with rfl
              rfl
            intro v8 w8 hO8 hg8 hn8
            have HR8 : Hid (w8.ownsRow w5.heap.size 33 1 v8 (j + 1) ((ds ++ [b]).map (Value.int .i64))) := Lib.hid (by rw [List.map_append]; exact hO8)
            obtain ⟨ca, cc, rfl⟩ := own_shape hO8
            have HX48 := Lib.hid (Chg.to_ext ((HI.out.ext.trans HX67.out).trans ((Ext.refl wc).alloc (.cells #[.int .i64 b] 33))) hg8 (fun q hq => by have h1 := (World.ownsRow.lt HROW.out q hq).1; have h2 := HSZ5.out; omega))
            have HKL5 : Hid (K12 < w5.heap.size) := Lib.hid (by have h1 := HSZ5.out; have h2 := HK12.out; omega)
            have HBK8 := Lib.hid (((HBK7.out.ext ((Ext.refl wc).alloc (.cells #[.int .i64 b] 33))).chg hg8 (fun e => by have h1 := (World.ownsRow.lt HROW.out _ e).1; have h2 := HKL5.out; omega)))
            clear hO8 hn8 x1' xf1 xl HROW
            have x1' := HBK8.out.cell 1 (v := .slice ba2 j bc2) rfl
            have xf1 := HBK8.out.frozen 1
            have xl := HBK8.out.lt
            go_upto_region 15 with fail
            obtain ⟨w9, hw9⟩ : ∃ y, y = w8.setCell ⟨K12, 1, none⟩ (.slice ca (j + 1) cc) := ⟨_, rfl⟩
            rw [← hw9]
            have hC89 : Chg (fun q => q = K12) w8 w9 := by rw [hw9]; exact (Chg.refl (fun q => q = K12) w8).setCell (.inr rfl) _
            have HBK9 : Hid (Blk w9 K12 #[.int .i64 0, .slice ca (j + 1) cc]) := Lib.hid (by rw [hw9]; exact HBK8.out.set 1 _)
            have HR9 := Lib.hid (own_chg HR8.out hC89 (fun q hq e => by have h1 := (World.ownsRow.lt HR8.out q hq).1; have h2 := HKL5.out; omega))
            have HSZ9 : Hid (w5.heap.size ≤ w9.heap.size) := Lib.hid (by have h1 := hg8.size; have h2 := HSZ7.out; have h3 := hC89.size; simp at h1; omega)
            have HX49 : Hid (Ext w4 w9) := Lib.hid (Chg.to_ext HX48.out hC89 (fun q e => by have h2 := HK12.out; omega))
            clear hw9 hC89 hg8 x1' xf1 xl HR8 HBK8 HBK7 HX48 HX7 HX67
            obtain ⟨ds', hds⟩ : ∃ y, ds ++ [b] = y := ⟨_, rfl⟩
            have HNX := Lib.hid (HLF.out.next (ds := ds) (t := t) (b := b) (by omega) HG3.out HBW.out (by rw [HO.out.len]; omega) HI.out.vst HB.out)
            have HFI : Hid (∀ v ∈ L0 ++ [⟨0, ds'⟩], v.fits ∧ v.beds.length ≤ 3) := Lib.hid (by
              intro v hv
              rcases List.mem_append.1 hv with hv | hv
              · exact HO.out.fits v hv
              · rw [List.mem_singleton] at hv
                subst hv
                have hlen : ds'.length = j + 1 := by rw [← hds, List.length_append, HI.out.len]; rfl
                refine ⟨⟨show I64 0 by unfold I64; decide, fun x hx => ?_, by show ds'.length ≤ _; omega⟩, by show ds'.length ≤ 3; omega⟩
                rw [← hds] at hx
                rcases List.mem_append.1 hx with hx | hx
                · exact HI.out.beds x hx
                · rw [List.mem_singleton] at hx
                  subst hx
                  rcases HB.out with rfl | hb
                  · show I64 0
                    unfold I64
                    decide
                  · exact ((rul_wrt (HRL.out 1 (by omega))).2 x hb).1)
            have HDI : Hid (∀ x ∈ ds', I64 x) := Lib.hid (fun x hx => (HFI.out ⟨0, ds'⟩ (by simp)).1.2.1 x hx)
            have HM : Hid (ds'.length = j + 1) := Lib.hid (by rw [← hds, List.length_append, HI.out.len]; rfl)
            rw [hds] at HNX HR9
            obtain ⟨m, hm⟩ : ∃ y, j + 1 = y := ⟨_, rfl⟩
            rw [hm] at HM HR9 HBK9
            have HMJ := Lib.hid hm
            have hm3 : 1 ≤ m ∧ m ≤ 3 := by omega
            have HKL := HO.out.len
            have HKL := Lib.hid HKL
            obtain ⟨S, hS⟩ : ∃ S, playS (oneR s g) (L0 ++ [⟨0, ds'⟩]) = S := ⟨_, rfl⟩
            have HS' := Lib.hid hS
            rw [hS] at HNX
            have HPV := Lib.hid (fun W (hX : Ext w9 W) => pub_Visits L0 oa k oc W ((HO.out.vis.fin.reads).ext (HX49.out.trans hX)) HKL.out (by omega) (fun v hv => by have := (HO.out.fits v hv).2; omega))
            obtain ⟨cab, rfl, hcab⟩ := own_cellsM HR9.out (by omega)
            have hpc := fun W (hX : Ext w9 W) => pub_Copy ds' (some ⟨cab, 0, none⟩) cc W (fun i hi => ⟨cab, 0, rfl, by simpa using hX.cell (hcab i (.int .i64 ds'[i]) (by simp [hi]))⟩) (by rw [HM.out]; omega) (fun h => by cases h)
            rw [HM.out] at hpc
            have HPC := Lib.hid hpc
            have HPL := Lib.hid (fun W (hX : Ext w9 W) kb na nc base (hC : Blk W kb #[.int .i64 s, .int .i64 0, .int .i64 g]) (hV : VisF W base (.slice na (k + 1) nc) (L0 ++ [⟨0, ds'⟩])) => play_gen s g kb (L0 ++ [⟨0, ds'⟩]) na nc base W hC (k + 1) (by rw [List.length_append, HKL.out]; rfl) hV (fun v hv => (HFI.out v hv).1) (by omega) S hS)
            clear hS hds hcab hpc hm
            have y1' := HBK9.out.cell 1 (v := .slice (some ⟨cab, 0, none⟩) m cc) rfl
            have yl := HBK9.out.lt
            have hbs9 := (HBS.out.ext HO.out.ext).ext HX49.out
            have z0 := hbs9.cell 0 (v := .int .i64 s) rfl
            have z1 := hbs9.cell 1 (v := .int .i64 0) rfl
            have z2 := hbs9.cell 2 (v := .int .i64 g) rfl
            have zl := hbs9.lt
            have hlo1 : ¬ (w9.heap.size ≤ K12) := by omega
            have hlo2 : ¬ (w9.heap.size ≤ kr) := by omega
            clear hbs9
            rw [HMJ.out]
            refine wp_region_calls (by kernel_rfl) [.no, .box 1, .no, .no, .slc k, .no, .no, .slc m, .no, .box 1, .slc (k + 1), .of (PlyS S) (plyW S) (plyW_shape S), .no, .no, .no, .no, .ptr, .any] w9.heap.size (fun c => c.2.2.heap.size)
              (fun (c : (Nat × Nat) × (Nat × World)) L u => [bif L 1 then Res.blk (slcAt (u 1)) #[.int .i64 s, .int .i64 0, .int .i64 g] else Res.none,
                bif L 10 then Res.visP w9.heap.size (fun b => (c.1.1 ≤ b ∧ b < c.1.2) ∨ (u 7).ownBlock = some b ∨ (u 10).ownBlock = some b) (u 10) (L0 ++ [⟨0, ds'⟩]) else bif L 4 then Res.visP w9.heap.size (fun b => c.1.1 ≤ b ∧ b < c.1.2) (u 4) L0 else Res.none,
                bif L 10 then Res.none else bif L 7 then Res.own w9.heap.size 33 1 (u 7) m (ds'.map (Value.int .i64)) else Res.none,
                bif L 10 then Res.none else bif L 9 then Res.own w9.heap.size 62 2 (u 9) 1 [.int .i64 0, u 7] else Res.none,
                bif L 11 then Res.snap c.2 else Res.none, bif L 11 then Res.pure (Ext w9 c.2.2 ∧ w9.heap.size ≤ c.2.1 ∧ PlyV S (u 11) c.2.1 c.2.2) else Res.none,
                bif L 16 then Res.blk (ptrAt (u 16)) (bif L 17 then #[aggAt 0 (aggAt 0 (u 11)), aggAt 1 (aggAt 0 (u 11)), aggAt 2 (aggAt 0 (u 11)), aggAt 3 (aggAt 0 (u 11)), aggAt 4 (aggAt 0 (u 11)), aggAt 5 (aggAt 0 (u 11)), aggAt 6 (aggAt 0 (u 11))] else #[.slice none 0 0, .slice none 0 0, .slice none 0 0, .int .i64 0, .int .i64 0, .bool false, .slice none 0 0]) else Res.none])
              ((0, 0), (0, w9)) (by kernel_rfl) (Nat.le_of_ble_eq_true rfl) (fun c L L' u hh => by simp only [hh 1 rfl, hh 4 rfl, hh 7 rfl, hh 9 rfl, hh 10 rfl, hh 11 rfl, hh 16 rfl, hh 17 rfl]) (Nat.le_refl _) (fun _ => Frm.nones _ 7 w9) ?_
            intro T hT hne u hu
            obtain ⟨kb1, u1⟩ : ∃ k, u 1 = .slice (some ⟨k, 0, none⟩) 1 1 := hu 1 rfl
            obtain ⟨va, vc, u4⟩ : ∃ a c, u 4 = .slice a k c := hu 4 rfl
            obtain ⟨da, dc, u7⟩ : ∃ a c, u 7 = .slice a m c := hu 7 rfl
            obtain ⟨kb9, u9⟩ : ∃ k, u 9 = .slice (some ⟨k, 0, none⟩) 1 1 := hu 9 rfl
            obtain ⟨na, nc, u10⟩ : ∃ a c, u 10 = .slice a (k + 1) c := hu 10 rfl
            obtain ⟨a0, a1, a2, a3, c0, c1, c2, c3, u11⟩ : PlyS S (u 11) := hu 11 rfl
            obtain ⟨k16, u16⟩ : ∃ k, u 16 = .pointer (some ⟨k, 0, none⟩) := hu 16 rfl
            clear hu
            refine lx_next 1 (by rfl) (by decide) ?_
            dsimp only [List.take, List.drop]
            repeat (go_big_quiet_step (fail))
            refine wpQuiet_nil ?_
            refine lx_loud (by rfl) (by kernel_rfl) ?_ (fun K hK => ?_)
            · intro L w3 hL hd hcl hC hs
              obtain ⟨x, rfl⟩ := hC
              obtain ⟨c, hmc, hs⟩ := hs
              have hzs := x.size
              simp only [hL, cond_false] at hs
              have HS0 := Lib.hid hs
              clear hs
              go_wp2
              exact lik_set x (Nat.le_refl _) ⟨_, rfl⟩ HS0.out 0 (r' := Res.blk x.world.heap.size #[.int .i64 s, .int .i64 0, .int .i64 g]) rfl (((Ext.refl x.world).alloc _).chg _) (Blk.new _ _ _) (fun k hk => .inr (by rw [show k = x.world.heap.size from hk]; simp)) c hmc (by first | (simp [upd, updv, hL, slcAt]; done) | (simp [upd, updv, hL, slcAt]; rfl))
            rw [u1]
            go_simp
            with_reducible refine hK _ ?_
            clear hK K
            refine lx_next 2 (by rfl) (by decide) ?_
            dsimp only [List.take, List.drop]
            repeat (go_big_quiet_step (fail))
            refine wpQuiet_nil ?_
            refine lx_loud (by rfl) (by kernel_rfl) ?_ (fun K hK => ?_)
            · intro L w3 hL hd hcl hC hs
              obtain ⟨x, rfl⟩ := hC
              obtain ⟨c, hmc, hs⟩ := hs
              have hzs := x.size
              have h7 := hcl.off hL 40 7 (by kernel_rfl)
              have h9 := hcl.off hL 40 9 (by kernel_rfl)
              have h10 := hcl.off hL 40 10 (by kernel_rfl)
              have h11 := hcl.off hL 40 11 (by kernel_rfl)
              have h17 := hcl.off hL 40 17 (by kernel_rfl)
              simp only [hL, h7, h9, h10, h11, h17, cond_false] at hs
              have hX : Ext w9 x.world := Chg.to_ext (Ext.refl w9) x.chg (by rintro i ⟨_, h⟩; exact h)
              have HS0 := Lib.hid hs
              clear hs
              go_wp2_with fail
              refine (HPV.out _ hX).mono ?_
              rintro e w' ⟨v, rfl, ho, hx⟩
              obtain ⟨oa, oc, e⟩ := ho.shape
              rw [HKL.out] at e
              subst e
              go_wp2
              exact lik_set x (Nat.le_refl _) ⟨_, _, rfl⟩ HS0.out 1 (r' := Res.visP w9.heap.size (fun b => x.world.heap.size ≤ b ∧ b < w'.heap.size) (.slice oa k oc) L0) rfl (hx.chg _) (ho.own.mono hzs) (fun k hk => .inr hk) ((x.world.heap.size, w'.heap.size), c.2) hmc (by first | (simp [upd, updv, h7, h9, h10, h11, h17, hL]; done) | (simp [upd, updv, h7, h9, h10, h11, h17, hL]; rfl))
            rw [u4]
            go_simp
            with_reducible refine hK _ ?_
            clear hK K
            refine lx_next 2 (by rfl) (by decide) ?_
            dsimp only [List.take, List.drop]
            repeat (go_big_quiet_step (fail))
            refine wpQuiet_nil ?_
            refine lx_loud (by rfl) (by kernel_rfl) ?_ (fun K hK => ?_)
            · intro L w3 hL hd hcl hC hs
              obtain ⟨x, rfl⟩ := hC
              obtain ⟨c, hmc, hs⟩ := hs
              have hzs := x.size
              have h9 := hcl.off hL 40 9 (by kernel_rfl)
              have h10 := hcl.off hL 40 10 (by kernel_rfl)
              have h11 := hcl.off hL 40 11 (by kernel_rfl)
              have h17 := hcl.off hL 40 17 (by kernel_rfl)
              have h4 := hd 4 (by kernel_rfl)
              simp only [hL, h9, h10, h11, h17, h4, cond_true, cond_false] at hs
              have hX : Ext w9 x.world := Chg.to_ext (Ext.refl w9) x.chg (by rintro i ⟨_, h⟩; exact h)
              have HS0 := Lib.hid hs
              clear hs
              go_wp2_with fail
              refine (HPC.out _ hX).mono ?_
              rintro e w' ⟨v, rfl, ho, hx⟩
              obtain ⟨oa, oc, rfl⟩ := own_shape ho
              go_wp2
              exact lik_set x (Nat.le_refl _) ⟨_, _, rfl⟩ HS0.out 2 (r' := Res.own w9.heap.size 33 1 (.slice oa m oc) m (ds'.map (Value.int .i64))) rfl (hx.chg _) (own_mono ho hzs) (fun k hk => .inr (World.ownsRow.lt ho k hk)) c hmc (by first | (simp [upd, updv, h9, h10, h11, h17, h4, hL]; done) | (simp [upd, updv, h9, h10, h11, h17, h4, hL]; rfl))
            rw [u7]
            go_simp
            with_reducible refine hK _ ?_
            clear hK K
            refine lx_next 1 (by rfl) (by decide) ?_
            dsimp only [List.take, List.drop]
            repeat (go_big_quiet_step (fail))
            refine wpQuiet_nil ?_
            refine lx_loud (by rfl) (by kernel_rfl) ?_ (fun K hK => ?_)
            · intro L w3 hL hd hcl hC hs
              obtain ⟨x, rfl⟩ := hC
              obtain ⟨c, hmc, hs⟩ := hs
              have hzs := x.size
              have h10 := hcl.off hL 40 10 (by kernel_rfl)
              have h11 := hcl.off hL 40 11 (by kernel_rfl)
              have h17 := hcl.off hL 40 17 (by kernel_rfl)
              have h7 := hcl.onW (i := 7) 40 (hd 8 (by kernel_rfl)) (by kernel_rfl)
              simp only [hL, h10, h11, h17, h7, cond_true, cond_false] at hs
              rw [u7] at hs
              have HS0 := Lib.hid hs
              clear hs
              go_wp2
              exact lik_set x (Nat.le_refl _) ⟨_, rfl⟩ HS0.out 3 (r' := Res.own w9.heap.size 62 2 (.slice (some ⟨x.world.heap.size, 0, none⟩) 1 1) 1 [.int .i64 0, .slice da m dc]) rfl (((Ext.refl x.world).alloc _).chg _) (own_box hzs (by decide) rfl) (fun k hk => .inr (by rw [← own_blkW hk]; simp)) c hmc (by first | (simp [upd, updv, h10, h11, h17, h7, hL, u7]; done) | (simp [upd, updv, h10, h11, h17, h7, hL, u7]; rfl))
            rw [u9]
            go_simp
            with_reducible refine hK _ ?_
            clear hK K
            refine lx_loud (by rfl) (by kernel_rfl) ?_ (fun K hK => ?_)
            · intro L w3 hL hd hcl hC hs
              obtain ⟨x, rfl⟩ := hC
              obtain ⟨c, hmc, hs⟩ := hs
              have hzs := x.size
              have h11 := hcl.off hL 40 11 (by kernel_rfl)
              have h17 := hcl.off hL 40 17 (by kernel_rfl)
              have h4 := hd 4 (by kernel_rfl)
              have h7 := hd 7 (by kernel_rfl)
              have h9 := hd 9 (by kernel_rfl)
              simp only [hL, h11, h17, h4, h7, h9, cond_true, cond_false] at hs
              rw [u4, u7, u9] at hs
              have HS0 := Lib.hid hs
              clear hs
              obtain ⟨us, hu1, hu2, hu3, hu4⟩ : VisP x.world w9.heap.size (fun b => c.1.1 ≤ b ∧ b < c.1.2) (.slice va k vc) L0 := HS0.out.get 1 rfl
              rw [HKL.out] at hu2
              have HU1 := Lib.hid hu1
              have HU2 := Lib.hid hu2
              have HU3 := Lib.hid hu3
              have HU4 := Lib.hid hu4
              clear hu1 hu2 hu3 hu4
              refine wp_append_sep rfl _ _ 57 62 _ 2 32 rfl info_visW (by kernel_rfl) rfl (by decide) w9.heap.size (.slice va k vc) k (cellsV L0 us) rfl HU2.out w9.heap.size kb9 1 1 [.int .i64 0, .slice da m dc] rfl (HS0.out.get 3 rfl) (by intro u hu; simp only [List.mem_cons, List.not_mem_nil, or_false] at hu; rcases hu with rfl | rfl <;> rfl) (by omega) (by decide) hzs ?_
              intro v' w' ho4 hC4 hn4
              obtain ⟨av, ac, rfl⟩ := own_shape ho4
              go_wp2
              exact lik_snoc x (Nat.le_refl _) ⟨_, _, rfl⟩ HS0.out 1 2 3 (by decide) (by decide) (by decide) (lv := ⟨0, ds'⟩) (a := da) (c := dc) rfl (by rw [HM.out]; rfl) HU1.out (by rw [HKL.out]; exact HU2.out) HU3.out HU4.out (by rw [HKL.out, HM.out]; exact ho4) hC4 hn4 c hmc (by rw [HM.out]; first | (simp [upd, updv, h11, h17, h4, h7, h9, hL, u4, u7, u9]; done) | (simp [upd, updv, h11, h17, h4, h7, h9, hL, u4, u7, u9]; rfl))
            rw [u10]
            go_simp
            with_reducible refine hK _ ?_
            clear hK K
            refine lx_loud (by rfl) (by kernel_rfl) ?_ (fun K hK => ?_)
            · intro L w3 hL hd hcl hC hs
              obtain ⟨x, rfl⟩ := hC
              obtain ⟨c, hmc, hs⟩ := hs
              have hzs := x.size
              have h17 := hcl.off hL 40 17 (by kernel_rfl)
              have h10 := hd 10 (by kernel_rfl)
              have h1 := hcl.onW (i := 1) 40 (hd 2 (by kernel_rfl)) (by kernel_rfl)
              simp only [hL, h17, h10, h1, cond_true, cond_false] at hs
              rw [u1, u7, u10] at hs
              have hX : Ext w9 x.world := Chg.to_ext (Ext.refl w9) x.chg (by rintro i ⟨_, h⟩; exact h)
              have hmc2 : c.2.2.heap.size ≤ x.world.heap.size := hmc
              have hpv := (show VisP x.world w9.heap.size _ (.slice na (k + 1) nc) (L0 ++ [⟨0, ds'⟩]) from hs.get 1 rfl).fin
              have hcb : Blk x.world kb1 #[.int .i64 s, .int .i64 0, .int .i64 g] := hs.get 0 rfl
              have HJ5 := Lib.hid (HPL.out x.world hX kb1 na nc _ hcb hpv)
              have HS5 := Lib.hid hs
              clear hpv hcb hs
              go_wp2_with fail
              refine HJ5.out.mono ?_
              rintro e w' ⟨v, rfl, hV, hx⟩
              have hsz' := hx.size
              have HSh := Lib.hid hV.shape
              have HV' := Lib.hid hV
              clear hV
              go_wp2
              exact lik_call x (Nat.le_refl _) HSh.out HS5.out 4 5 (by decide) rfl rfl hx (c.1, (x.world.heap.size, w')) (Nat.le_refl _) (φ := Ext w9 w' ∧ w9.heap.size ≤ x.world.heap.size ∧ PlyV S _ x.world.heap.size w') ⟨hX.trans hx, hzs, HV'.out⟩ (by first | (simp [upd, updv, h17, h10, h1, hL, u1, u7, u10]; done) | (simp [upd, updv, h17, h10, h1, hL, u1, u7, u10]; rfl))
            rw [u11]
            go_simp
            with_reducible refine hK _ ?_
            clear hK K
            refine lx_next 4 (by rfl) (by decide) ?_
            dsimp only [List.take, List.drop]
            repeat (go_big_quiet_step (fail))
            refine wpQuiet_nil ?_
            refine lx_loud (by rfl) (by kernel_rfl) ?_ (fun K hK => ?_)
            · intro L w3 hL hd hcl hC hs
              obtain ⟨x, rfl⟩ := hC
              obtain ⟨c, hmc, hs⟩ := hs
              have hzs := x.size
              have h17 := hcl.off hL 40 17 (by kernel_rfl)
              simp only [hL, h17, cond_false] at hs
              have HS0 := Lib.hid hs
              clear hs
              go_wp2
              exact lik_set x (Nat.le_refl _) ⟨_, rfl⟩ HS0.out 6 (r' := Res.blk x.world.heap.size #[.slice none 0 0, .slice none 0 0, .slice none 0 0, .int .i64 0, .int .i64 0, .bool false, .slice none 0 0]) rfl (((Ext.refl x.world).alloc _).chg _) (Blk.new _ _ _) (fun k hk => .inr (by rw [show k = x.world.heap.size from hk]; simp)) c hmc (by first | (simp [upd, updv, h17, hL]; done) | (simp [upd, updv, h17, hL]; rfl))
            rw [u16]
            go_simp
            with_reducible refine hK _ ?_
            clear hK K
            refine lx_loud (by rfl) (by kernel_rfl) ?_ (fun K hK => ?_)
            · intro L w3 hL hd hcl hC hs
              obtain ⟨x, rfl⟩ := hC
              obtain ⟨c, hmc, hs⟩ := hs
              have hzs := x.size
              have h11 := hd 11 (by kernel_rfl)
              have h16 := hd 16 (by kernel_rfl)
              simp only [hL, h11, h16, cond_true, cond_false] at hs
              rw [u16] at hs
              have hb : Blk x.world k16 #[.slice none 0 0, .slice none 0 0, .slice none 0 0, .int .i64 0, .int .i64 0, .bool false, .slice none 0 0] := hs.get 6 rfl
              have hlt := hb.lt
              have q0 := hb.cell 0 (v := .slice none 0 0) rfl
              have f0 := hb.frozen 0
              have q1 := hb.cell 1 (v := .slice none 0 0) rfl
              have f1 := hb.frozen 1
              have q2 := hb.cell 2 (v := .slice none 0 0) rfl
              have f2 := hb.frozen 2
              have q3 := hb.cell 3 (v := .int .i64 0) rfl
              have f3 := hb.frozen 3
              have q4 := hb.cell 4 (v := .int .i64 0) rfl
              have f4 := hb.frozen 4
              have q5 := hb.cell 5 (v := .bool false) rfl
              have f5 := hb.frozen 5
              have q6 := hb.cell 6 (v := .slice none 0 0) rfl
              have f6 := hb.frozen 6
              have HS0 := Lib.hid hs
              have HB0 := Lib.hid hb
              clear hs hb
              go_wp2
              exact lik_set x (Nat.le_refl _) trivial HS0.out 6 rfl (seven_chg (fun k => k = k16) _ rfl _ _ _ _ _ _ _) (r' := Res.blk k16 #[.slice a0 S.1.left.length c0, .slice a1 S.1.darts.length c1, .slice a2 S.1.inn.length c2, .int .i64 S.1.next, .int .i64 S.1.round, .bool S.1.over, .slice a3 S.1.winners.length c3]) (seven_set HB0.out _ _ _ _ _ _ _) (fun _ hk => .inl hk) c hmc (by first | (simp [upd, updv, h11, h16, hL, u11, u16, aggAt, ptrAt]; done) | (simp [upd, updv, h11, h16, hL, u11, u16, aggAt, ptrAt]; rfl))
            go_simp
            with_reducible refine hK _ ?_
            clear hK K
            refine lx_next 2 (by rfl) (by decide) ?_
            dsimp only [List.take, List.drop]
            repeat (go_big_quiet_step (fail))
            refine wpQuiet_nil ?_
            refine lx_nil ?_
            intro x hs
            obtain ⟨c, hmc, hs⟩ := hs
            rw [u11, u16] at hs
            have hX : Ext w9 x.world := Chg.to_ext (Ext.refl w9) x.chg (by rintro i ⟨_, h⟩; exact h)
            have hmc2 : c.2.2.heap.size ≤ x.world.heap.size := hmc
            have hp5 : Ext w9 c.2.2 ∧ w9.heap.size ≤ c.2.1 ∧ PlyV S (.tuple #[.agg #[.slice a0 S.1.left.length c0, .slice a1 S.1.darts.length c1, .slice a2 S.1.inn.length c2, .int .i64 S.1.next, .int .i64 S.1.round, .bool S.1.over, .slice a3 S.1.winners.length c3], .int .i64 S.2.1, .int .i64 S.2.2]) c.2.1 c.2.2 := hs.get 5 rfl
            have hj5 := (hp5.2.2.chg (snap_chg (hs.get 4 rfl) hp5.1 hX (by omega)) (fun k hk => hk.2))
            have hbs : Blk x.world k16 #[.slice a0 S.1.left.length c0, .slice a1 S.1.darts.length c1, .slice a2 S.1.inn.length c2, .int .i64 S.1.next, .int .i64 S.1.round, .bool S.1.over, .slice a3 S.1.winners.length c3] := hs.get 6 rfl
            have hge5 := hp5.2.1
            have hkl16 : w9.heap.size ≤ k16 := (hs.lt 6 rfl k16 rfl).1
            clear hs hmc hmc2 hp5 hT hne u1 u4 u7 u9 u10 u11 u16
            obtain ⟨wn, hwn⟩ : ∃ y, x.world = y := ⟨_, rfl⟩
            rw [hwn] at hX hj5 hbs ⊢
            have HXN := Lib.hid hX
            have HJ5 := Lib.hid hj5
            have HBN := Lib.hid hbs
            clear hwn x hX hj5 hbs y1' yl z0 z1 z2 zl hlo1 hlo2 HPV HPC HPL
            rcases HNX.out with ⟨e, t', hv'⟩ | ⟨G', yI, D, e, hE, hgo⟩
            · have e1 : S.2.1 = (L0.length : Int) := by rw [e]
              have e2 : S.2.2 = 31 := by rw [e]
              rw [e1, e2]
              have HI2 : Hid (InF g bl s lx ld w4 w5 K12 m ds' t' (.slice (some ⟨cab, 0, none⟩) m cc) wn) := Lib.hid ⟨HM.out, hv', own_chg HR9.out (HXN.out.chg fun _ => False) (fun _ _ => id), HBK9.out.ext HXN.out, HDI.out, HX49.out.trans HXN.out, Nat.le_trans HSZ9.out HXN.out.size⟩
              clear e hv' e1 e2
              go_wp2
              go_roundw
              case rel => exact ⟨m, _, _, _, by have := HMJ.out; go_num, HI2.out⟩
              case measure => have := HMJ.out; simp [intOf]; omega
            · have e1 : S.2.1 = 0 := by rw [e]
              have e2 : S.2.2 = 0 := by rw [e]
              have e3 : S.1 = G' := by rw [e]
              rw [e1, e2]
              obtain ⟨a0', a1', rfl, rfl⟩ : ∃ p q : Option Addr, a0 = p ∧ a1 = q := ⟨_, _, rfl, rfl⟩
              have HE := Lib.hid hE
              have HGO := Lib.hid hgo
              have HE3 := Lib.hid e3
              clear e e1 e2 e3 hE hgo
              have hst := (HO.out.st.ext HX49.out).ext HXN.out
              have hbs := HBN.out
              have q0 := hst.cell 0 (v := v0) rfl
              have qf0 := hst.frozen 0
              have r0 := hbs.cell 0 (v := .slice a0 S.1.left.length c0) rfl
              have q1 := hst.cell 1 (v := v1) rfl
              have qf1 := hst.frozen 1
              have r1 := hbs.cell 1 (v := .slice a1 S.1.darts.length c1) rfl
              have q2 := hst.cell 2 (v := v2) rfl
              have qf2 := hst.frozen 2
              have r2 := hbs.cell 2 (v := .slice a2 S.1.inn.length c2) rfl
              have q3 := hst.cell 3 (v := v3) rfl
              have qf3 := hst.frozen 3
              have r3 := hbs.cell 3 (v := .int .i64 S.1.next) rfl
              have q4 := hst.cell 4 (v := v4) rfl
              have qf4 := hst.frozen 4
              have r4 := hbs.cell 4 (v := .int .i64 S.1.round) rfl
              have q5 := hst.cell 5 (v := .bool false) rfl
              have qf5 := hst.frozen 5
              have r5 := hbs.cell 5 (v := .bool S.1.over) rfl
              have q6 := hst.cell 6 (v := v6) rfl
              have qf6 := hst.frozen 6
              have r6 := hbs.cell 6 (v := .slice a3 S.1.winners.length c3) rfl
              have ql := hst.lt
              have rl := hbs.lt
              go_upto_region 20 with fail
              obtain ⟨wp, hwp⟩ : ∃ y, y = (((((((wn.setCell ⟨K10, 0, none⟩ (.slice a0 S.1.left.length c0)).setCell ⟨K10, 1, none⟩ (.slice a1 S.1.darts.length c1)).setCell ⟨K10, 2, none⟩ (.slice a2 S.1.inn.length c2)).setCell ⟨K10, 3, none⟩ (.int .i64 S.1.next)).setCell ⟨K10, 4, none⟩ (.int .i64 S.1.round)).setCell ⟨K10, 5, none⟩ (.bool S.1.over)).setCell ⟨K10, 6, none⟩ (.slice a3 S.1.winners.length c3)) := ⟨_, rfl⟩
              rw [← hwp]
              have HKP : Hid (Blk wp K10 #[.slice a0 S.1.left.length c0, .slice a1 S.1.darts.length c1, .slice a2 S.1.inn.length c2, .int .i64 S.1.next, .int .i64 S.1.round, .bool S.1.over, .slice a3 S.1.winners.length c3]) := Lib.hid (by rw [hwp]; exact seven_set ((HO.out.st.ext HX49.out).ext HXN.out) _ _ _ _ _ _ _)
              have hCP : Chg (fun q => q = K10) wn wp := by rw [hwp]; exact seven_chg (fun q => q = K10) _ rfl _ _ _ _ _ _ _
              clear hwp q0 qf0 r0 q1 qf1 r1 q2 qf2 r2 q3 qf3 r3 q4 qf4 r4 q5 qf5 r5 q6 qf6 r6 ql rl hst hbs
              have HLT : Hid (K10 < w4.heap.size) := Lib.hid HO.out.st.lt
              have HKN : Hid (K12 ≠ K10 ∧ K12 < wp.heap.size ∧ w2.heap.size ≤ w5.heap.size ∧ w5.heap.size ≤ wp.heap.size ∧ w2.heap.size ≤ wp.heap.size) := Lib.hid (by
                have h1 := HK12.out; have h2 := HLT.out; have h3 := HSZ5.out; have h4 := HO.out.ext.size; have h5 := HSZ9.out; have h6 := HXN.out.size; have h7 := hCP.size
                omega)
              have HBP := Lib.hid ((HBK9.out.ext HXN.out).chg hCP (show ¬ (fun q => q = K10) K12 from HKN.out.1))
              have HRP : Hid (wp.ownsRow w5.heap.size 33 1 (.slice (some ⟨cab, 0, none⟩) m cc) m (ds'.map (Value.int .i64))) := Lib.hid (own_chg (own_chg HR9.out (HXN.out.chg fun _ => False) (fun _ _ => id)) hCP (fun q hq e => by
                have h1 := (World.ownsRow.lt HR9.out q hq).1; have h2 := HLT.out; have h3 := HSZ5.out
                omega))
              obtain ⟨us, hu1, hu2, hu3, hu4⟩ := ((HO.out.vis.keep ((HX49.out.trans HXN.out).chg fun _ => False) (fun _ _ => id)).keep hCP (fun q hq e => hq e)).keep (((Ext.refl wp).alloc (.cells #[.int .i64 0, .slice (some ⟨cab, 0, none⟩) m cc] 62)).chg fun _ => False) (fun _ _ => id)
              rw [HKL.out] at hu2
              have HU1 := Lib.hid hu1
              have HU2 := Lib.hid hu2
              have HU3 := Lib.hid hu3
              have HU4 := Lib.hid hu4
              have HCP := Lib.hid hCP
              clear hu1 hu2 hu3 hu4 hCP
              have p0 := HBP.out.cell 0 (v := .int .i64 0) rfl
              have p1 := HBP.out.cell 1 (v := .slice (some ⟨cab, 0, none⟩) m cc) rfl
              have pl := HBP.out.lt
              go_wp2_with (at_builtin; refine wp_append_from rfl _ _ 57 62 _ 2 32 rfl info_visW (by kernel_rfl) rfl (by decide) w2.heap.size (.slice oa k oc) k (cellsV L0 us) rfl HU2.out (some ⟨wp.heap.size, 0, none⟩) 1 1 [.int .i64 0, .slice (some ⟨cab, 0, none⟩) m cc] rfl (fun h => by cases h) rfl ?_ ?_ (by omega) (by omega) (by have := HKN.out; simp; omega) ?_)
              · exact ⟨rfl, rfl⟩
              intro v11 w11 hO11 hg11 hn11
              have HAL : Hid (Ext wp (wp.alloc (.cells #[.int .i64 0, .slice (some ⟨cab, 0, none⟩) m cc] 62))) := Lib.hid ((Ext.refl wp).alloc _)
              have HOLD : Hid (∀ q, (Value.slice oa k oc).ownBlock = some q → q < w4.heap.size) := Lib.hid (fun q hq => by
                obtain ⟨us', -, h2, -⟩ := HO.out.vis
                exact (World.ownsRow.lt h2 q hq).2)
              have HV11 : Hid (VisP w11 w2.heap.size (fun b => b ≠ K10) v11 (L0 ++ [⟨0, ds'⟩])) := Lib.hid (visP_snoc (lv := ⟨0, ds'⟩) (a := some ⟨cab, 0, none⟩) (c := cc) HU1.out (by rw [HKL.out]; exact HU2.out) HU4.out (by show World.ownsRow _ _ _ _ (.slice (some ⟨cab, 0, none⟩) ds'.length cc) _ _; rw [HM.out]; exact own_mono (own_chg HRP.out (HAL.out.chg fun _ => False) (fun _ _ => id)) HKN.out.2.2.1)
                (fun q hq => by
                  have h0 : (Value.slice (some ⟨cab, 0, none⟩) m cc).ownBlock = some q := hq
                  have h1 := (World.ownsRow.lt HRP.out q h0).1; have h2 := HLT.out; have h3 := HSZ5.out
                  show q ≠ K10
                  omega) (by rw [HKL.out]; show World.ownsRow _ _ _ _ _ _ (cellsV L0 us ++ [.int .i64 0, .slice (some ⟨cab, 0, none⟩) ds'.length cc]); rw [HM.out]; exact hO11) hg11
                (fun q hq => by
                  rcases hn11 q hq with h1 | h1
                  · exact HU3.out q h1
                  · have h2 := HKP.out.lt
                    have h3 := HAL.out.size
                    show q ≠ K10
                    omega))
              have HK11 := Lib.hid ((HKP.out.ext HAL.out).chg hg11 (fun e => HU3.out K10 e rfl))
              have hp11 := ((HJ5.out.chg HCP.out (fun q e => by have h1 := HLT.out; have h2 := HX49.out.size; omega)).chg (HAL.out.chg fun _ => False) (fun _ e => e.elim)).chg hg11 (fun q e => by have h1 := HOLD.out q e; have h2 := HX49.out.size; omega)
              have hrd := hp11.reads
              rw [HE3.out, HE.out.left, HE.out.darts] at hrd
              obtain ⟨lb, lo, rfl, hlc⟩ := hrd.1.head
              obtain ⟨db, dk, rfl, hdc⟩ := hrd.2.head
              have HX11 : Hid (Ext w2 w11) := Lib.hid (Chg.to_ext (Chg.to_ext (HO.out.ext.trans (HX49.out.trans HXN.out)) HCP.out (fun q e => by have h1 := HK10.out; omega)) ((HAL.out.chg _).trans hg11) (fun q e => (World.ownsRow.lt HU2.out q e).1))
              obtain ⟨y, hy⟩ := Int.eq_ofNat_of_zero_le HE.out.bnd.1
              have hl1 : S.1.left.length = 1 := by rw [HE3.out, HE.out.left]; rfl
              have hl2 : S.1.darts.length = 1 := by rw [HE3.out, HE.out.darts]; rfl
              have hov1 : S.1.over = decide ((y : Int) = 0) := by rw [HE3.out, HE.out.won, hy]
              have hE1 : StE g bl s S.1.over (.slice (some ⟨lb, lo, none⟩) 1 c0) (.slice (some ⟨db, dk, none⟩) 1 c1) w11 lb lo c0 db dk c1 y D := by
                refine ⟨rfl, rfl, by rw [← hy]; exact hlc, hdc, by have := HE.out.bnd.2; omega, hov1, fun e => HE.out.few (by omega), fun e => ?_⟩
                have h1 := HE.out.never e
                rw [hy, Int.toNat_natCast] at h1
                exact h1
              have hk11 := HK11.out
              rw [hl1, hl2] at hk11
              have HF11 : Hid (OutF g bl s w2 K10 (k + 1) (L0 ++ [⟨0, ds'⟩]) S.1 yI D S.1.over (.slice (some ⟨lb, lo, none⟩) 1 c0) (.slice (some ⟨db, dk, none⟩) 1 c1) (.slice a2 S.1.inn.length c2) (.int .i64 S.1.next) (.int .i64 S.1.round) (.slice a3 S.1.winners.length c3) v11 w11) := Lib.hid ⟨by omega, by rw [List.length_append, HKL.out]; rfl, HV11.out, hk11, HFI.out, fun e => by
                rw [HE3.out] at e ⊢
                exact HGO.out e, fun e => by omega, fun _ => ⟨lb, lo, c0, db, dk, c1, y, D, hE1⟩, HX11.out⟩
              clear hl1 hl2 hov1 hE1 hk11 hrd hp11 hlc hdc hy p0 p1 pl hO11 hg11 hn11
              go_wp2
              go_roundw
              case rel => exact ⟨k + 1, _, _, _, _, _, _, _, _, _, _, _, by go_num, HF11.out⟩
              case measure => simp [intOf]; omega
      · have hpos := hrest (.inl rfl)
        clear hrest
        obtain ⟨lb, lo, lc, db, dk, dc, y, D, hE⟩ := HO.out.last hpos
        go_upto_if 44 with fail
        refine wp_cond_false rfl ?_
        refine wp_exit ?_
        refine b0 _ _ ?_
        have e0 := hE.e0
        have e1 := hE.e1
        subst e0
        subst e1
        exact fewest_rest _ (by kernel_rfl) w w4 g bl s y D true ba bc kr K10 lb lo lc db dk dc v2 v3 v4 v6 (Lib.hid (HX2.out.trans HO.out.ext)) HRL ⟨hs2, by omega⟩ (Lib.hid (HBC.out.ext HO.out.ext)) (Lib.hid (HBS.out.ext HO.out.ext)) (Lib.hid HO.out.st) (Lib.hid hE.left) (Lib.hid hE.darts) hE.le (Lib.hid hE.over) (Lib.hid hE.few) (Lib.hid hE.never)
    · have hk' : ¬ (k : Int) < 60 := by omega
      have hpos := hrest (.inr hk)
      clear hrest
      obtain ⟨lb, lo, lc, db, dk, dc, y, D, hE⟩ := HO.out.last hpos
      go_upto_if 44 with fail
      refine wp_cond_false rfl ?_
      refine wp_exit ?_
      refine b0 _ _ ?_
      have e0 := hE.e0
      have e1 := hE.e1
      subst e0
      subst e1
      exact fewest_rest _ (by kernel_rfl) w w4 g bl s y D ov ba bc kr K10 lb lo lc db dk dc v2 v3 v4 v6 (Lib.hid (HX2.out.trans HO.out.ext)) HRL ⟨hs2, by omega⟩ (Lib.hid (HBC.out.ext HO.out.ext)) (Lib.hid (HBS.out.ext HO.out.ext)) (Lib.hid HO.out.st) (Lib.hid hE.left) (Lib.hid hE.darts) hE.le (Lib.hid hE.over) (Lib.hid hE.few) (Lib.hid hE.never)
end Go.Proofs.Ytpifdeglhalefaa
