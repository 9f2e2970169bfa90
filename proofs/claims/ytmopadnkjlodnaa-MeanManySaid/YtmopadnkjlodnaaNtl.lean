/-
  The laws of chapter 6: Night.tale.
-/
import Derived.Test.YtmopadnkjlodnaaNtk
import Derived.Test.YtmopadnkjlodnaaMsp
import Derived.Test.YtmopadnkjlodnaaRle
import Derived.Test.YtmopadnkjlodnaaMvk
import Derived.Deep.CutBlock
import Derived.Deep.DeepCutAuto
namespace Go.Proofs.Ytmopadnkjlodnaa
open Go.RowKit Go.BigFrame
attribute [local go_sem] Later.cell Later.frozen Lat.cell Lat.frozen NoX
theorem WaysAt.mid {w w' : World} {S : Nat → Prop} {base : Nat} {v : Value} {ws : List (List Int)} (h : WaysAt w base v ws) (hx : Chg S w w') (hs : ∀ k, base ≤ k → k < w.heap.size → ¬ S k) : WaysAt w' base v ws :=
  let ⟨vals, h1, h2, h3⟩ := h; ⟨vals, own_chg h1 hx (fun k hk => hs k (World.ownsRow.lt h1 k hk).1 (World.ownsRow.lt h1 k hk).2), h2, fun i hi => let ⟨a, c, h4, h5⟩ := h3 i hi; ⟨a, c, h4, own_chg h5 hx (fun k hk => hs k (World.ownsRow.lt h5 k hk).1 (World.ownsRow.lt h5 k hk).2)⟩⟩
/-- A tale, while it is told. -/
structure TleV (start gin gout : Int) (bl : List Int) (k9 : Nat) (w W : World) (v : Nat) (x : Exa) (vs : List (List Int)) (vv : Value) : Prop where
  len : vs.length = v
  run : rxG gin gout bl vs 0 (exa0 start) = .inl x
  inv : TlX start gout v x
  box : Blk W k9 #[vv, .int .i64 x.t.points, .int .i64 x.t.darts.lo, .int .i64 x.t.tried.lo, .bool x.won]
  row : WaysAt W (k9 + 1) vv vs
  mem : ∀ l ∈ vs, (1 ≤ l.length ∧ l.length ≤ 3) ∧ ∀ b ∈ l, BedOk b
  chg : Chg (fun q => k9 ≤ q) w W
theorem WaysAt.snoc2 {S : Nat → Prop} {w w' : World} {base : Nat} {v v' : Value} {ws : List (List Int)} {way : List Int} {a : Option Addr} {c : Nat} {vals : List Value} (h1 : w.ownsRow base 25 1 v ws.length vals) (h2 : vals.length = ws.length) (h3 : ∀ i (h : i < ws.length), ∃ a c, vals[i]? = some (.slice a ws[i].length c) ∧ OwnD w base (.slice a ws[i].length c) ws[i]) (hw : OwnD w base (.slice a way.length c) way)
    (hrow : w'.ownsRow base 25 1 v' (ws.length + 1) (vals ++ [.slice a way.length c])) (hx : Chg S w w') (hS : ∀ k, S k → k < base ∨ v.ownBlock = some k) : WaysAt w' base v' (ws ++ [way]) := by
  have hne : ∀ {u : Value} {n : Nat} {ys : List Value}, w.ownsRow base 99 1 u n ys → ∀ k, u.ownBlock = some k → ¬ S k := by
    intro u n ys hu k hk hs
    rcases hS k hs with h | e
    · have := (World.ownsRow.lt hu k hk).1; omega
    · obtain ⟨_, e1⟩ := own_type hu hk
      obtain ⟨_, e2⟩ := own_type h1 e
      rw [e1] at e2
      cases e2
  refine ⟨vals ++ [.slice a way.length c], by simpa using hrow, by simp [h2], fun i hi => ?_⟩
  by_cases hlt : i < ws.length
  · obtain ⟨a', c', h4, h5⟩ := h3 i hlt
    rw [List.getElem_append_left hlt, List.getElem?_append_left (by omega)]
    exact ⟨a', c', h4, own_chg h5 hx (hne h5)⟩
  · have : i = ws.length := by simp at hi; omega
    subst this
    refine ⟨a, c, ?_, ?_⟩
    · rw [List.getElem?_append_right (by omega)]
      simp [h2]
    · simp only [List.getElem_append_right (Nat.le_refl _), Nat.sub_self, List.getElem_cons_zero]
      exact own_chg hw hx (hne hw)
/-- What is known while a visit is put to a tale. -/
structure G26 (k9 m s0 : Nat) (vv : Value) (vals : List Value) (sl : Value) (P P' D D' T : Int) (Wn : Bool) (L : Nat → Bool) (u : Nat → Value) (W : World) : Prop where
  blk : Blk W k9 #[(bif L 17 then u 4 else vv), .int .i64 (bif L 19 then P' else P), .int .i64 (bif L 21 then D' else D), .int .i64 T, .bool Wn]
  box : L 3 = true → ∃ b, u 3 = .slice (some ⟨b, 0, none⟩) 1 1 ∧ s0 ≤ b ∧ W.cell? ⟨b, 0, none⟩ = some sl
  row : L 4 = false → W.ownsRow (k9 + 1) 25 1 vv m vals
  row' : L 4 = true → W.ownsRow (k9 + 1) 25 1 (u 4) (m + 1) (vals ++ [sl])
theorem G26.congr {k9 m s0 : Nat} {vv : Value} {vals : List Value} {sl : Value} {P P' D D' T : Int} {Wn : Bool} {L L' : Nat → Bool} {u u' : Nat → Value} {W : World} (h : G26 k9 m s0 vv vals sl P P' D D' T Wn L u W)
    (h3 : L' 3 = L 3) (h4 : L' 4 = L 4) (h17 : L' 17 = L 17) (h19 : L' 19 = L 19) (h21 : L' 21 = L 21) (u3 : u' 3 = u 3) (u4 : u' 4 = u 4) : G26 k9 m s0 vv vals sl P P' D D' T Wn L' u' W :=
  ⟨by rw [h17, h19, h21, u4]; exact h.blk, by rw [h3, u3]; exact h.box, by rw [h4]; exact h.row, by rw [h4, u4]; exact h.row'⟩
theorem G26.ext {k9 m s0 : Nat} {vv : Value} {vals : List Value} {sl : Value} {P P' D D' T : Int} {Wn : Bool} {L : Nat → Bool} {u : Nat → Value} {W W' : World} (h : G26 k9 m s0 vv vals sl P P' D D' T Wn L u W) (hx : Ext W W') : G26 k9 m s0 vv vals sl P P' D D' T Wn L u W' :=
  ⟨h.blk.ext hx, fun e => let ⟨b, h1, h2, h3⟩ := h.box e; ⟨b, h1, h2, hx.cell h3⟩, fun e => own_chg (h.row e) (hx.chg fun _ => False) fun _ _ => id, fun e => own_chg (h.row' e) (hx.chg fun _ => False) fun _ _ => id⟩
/-- A store into the tale's own variable. -/
theorem G26.set {k9 m s0 : Nat} {vv : Value} {vals : List Value} {sl : Value} {P P' D D' T : Int} {Wn : Bool} {L L' : Nat → Bool} {u u' : Nat → Value} {W : World} (h : G26 k9 m s0 vv vals sl P P' D D' T Wn L u W) (hk : k9 < s0)
    (h3 : L' 3 = L 3) (h4 : L' 4 = L 4) (u3 : u' 3 = u 3) (u4 : u' 4 = u 4) (j : Nat) (v : Value) (hb : Blk (W.setCell ⟨k9, j, none⟩ v) k9 #[(bif L' 17 then u 4 else vv), .int .i64 (bif L' 19 then P' else P), .int .i64 (bif L' 21 then D' else D), .int .i64 T, .bool Wn]) : G26 k9 m s0 vv vals sl P P' D D' T Wn L' u' (W.setCell ⟨k9, j, none⟩ v) :=
  ⟨by rw [u4]; exact hb, by
    rw [h3, u3]
    intro e
    obtain ⟨b, h1, h2, h5⟩ := h.box e
    exact ⟨b, h1, h2, (cell_chg W k9 j v).cell h5 (fun e => by have e' : b = k9 := e; omega)⟩,
   by rw [h4]; exact fun e => own_chg (h.row e) (cell_chg W k9 j v) (fun q hq e2 => by have h6 := (World.ownsRow.lt (h.row e) q hq).1; have h7 : q = k9 := e2; omega),
   by rw [h4, u4]; exact fun e => own_chg (h.row' e) (cell_chg W k9 j v) (fun q hq e2 => by have h6 := (World.ownsRow.lt (h.row' e) q hq).1; have h7 : q = k9 := e2; omega)⟩
def R26 (m : Nat) (vv : Value) (P D : Int) (k : Nat) (v : Value) : Prop := (k = 1 → v = vv) ∧ (k = 6 → v = .int .i64 P) ∧ (k = 12 → v = .int .i64 D) ∧ (k = 3 → ∃ b, v = .slice (some ⟨b, 0, none⟩) 1 1) ∧ (k = 4 → ∃ a c, v = .slice a (m + 1) c)
def w26 (m : Nat) (vv : Value) (P D : Int) (k : Nat) : Value := if k = 1 then vv else if k = 6 then .int .i64 P else if k = 12 then .int .i64 D else if k = 3 then .slice (some ⟨0, 0, none⟩) 1 1 else .slice none (m + 1) 0
theorem w26_ok (m : Nat) (vv : Value) (P D : Int) (k : Nat) : R26 m vv P D k (w26 m vv P D k) := by
  unfold R26 w26
  refine ⟨?_, ?_, ?_, ?_, ?_⟩ <;> rintro rfl
  · rfl
  · rfl
  · rfl
  · exact ⟨0, rfl⟩
  · exact ⟨none, 0, rfl⟩
set_option maxRecDepth 100000 in
set_option maxHeartbeats 16000000 in
theorem night_tale (n : Nt) (ba sa ha la : Option Addr) (bc sc hc lc : Nat) (bl : List Int) (start gin gout : Int) (at_ : Nat) (w : World) (hA : NtA n ba sa ha w) (hB : CellsAt w .i64 la bl) (hbb : bedsB bl = true) (hbl : 1 ≤ bl.length ∧ bl.length ≤ 82) (hst : 2 ≤ start ∧ start ≤ 512) (hgi : 0 ≤ gin ∧ gin ≤ 2) (hgo : 0 ≤ gout ∧ gout ≤ 2) (hat : at_ ≤ 1000) :
    Calls Try.prog 37 #[.agg (n.cells ba sa ha bc sc hc), .slice la bl.length lc, .agg #[.int .i64 start, .int .i64 gin, .int .i64 gout], .int .i64 at_] w fun e w' => ∃ (vs : List (List Int)) (x : Exa) (vv : Value), e = .returned (.agg #[vv, .int .i64 x.t.points, .int .i64 x.t.darts.lo, .int .i64 x.t.tried.lo, .bool x.won]) ∧ WaysAt w' w.heap.size vv vs ∧ rxG gin gout bl vs 0 (exa0 start) = .inl x ∧ TlX start gout vs.length x ∧ (vs.length ≤ 15 ∧ (x.won = false → vs.length = 15)) ∧ (∀ l ∈ vs, (1 ≤ l.length ∧ l.length ≤ 3) ∧ ∀ b ∈ l, BedOk b) ∧ Ext w w' := by
  have HA := Lib.hid hA
  have HB := Lib.hid hB
  have HBB := Lib.hid hbb
  have HBO : Hid (∀ b ∈ bl, BedOk b ∧ b ≠ 0) := Lib.hid (fun b hb => by
    obtain ⟨i, hi, rfl⟩ := List.mem_iff_getElem.1 hb
    have h := ((bedsB_iff bl).1 hbb i hi hi).1
    exact ⟨.inr h, by rintro e; rw [e] at h; revert h; decide⟩)
  clear hA hB hbb
  unfold Nt.cells
  go_enter Try.func37, Try.ntmps37
  go_upto_region 1 with fail
  generalize hw1 : World.alloc (World.alloc (World.alloc w _) _) _ = w1
  obtain ⟨k4, hk4⟩ : ∃ y, y = w.heap.size := ⟨_, rfl⟩
  rw [← hk4]
  have HB4 : Hid (Blk w1 k4 #[.slice ba n.beds.length bc, .slice sa n.starts.length sc, .int .u8 n.gates, .slice ha n.hits.length hc]) := Lib.hid (by rw [← hw1, hk4]; exact ((Blk.new _ _ _).alloc _).alloc _)
  have HB6 : Hid (Blk w1 (k4 + 1) #[.int .i64 start, .int .i64 gin, .int .i64 gout]) := Lib.hid (by rw [← hw1]; exact (Blk.at _ (by simp [hk4])).alloc _)
  have HB8 : Hid (Blk w1 (k4 + 1 + 1) #[.slice none 0 0, .int .i64 0, .int .i64 0, .int .i64 0, .bool false]) := Lib.hid (by rw [← hw1]; exact Blk.at _ (by simp [hk4]))
  have HX1 : Hid (Ext w w1) := Lib.hid (by rw [← hw1]; exact (((Ext.refl w).alloc _).alloc _).alloc _)
  have HK4 := Lib.hid hk4
  clear hw1 hk4
  have m0 : ∀ y : Lat NoX w1, y.world.cell? ⟨k4 + 1, 0, none⟩ = some (.int .i64 start) := fun y => (HB6.out.ext (Lat.ext0 y)).cell 0 rfl
  have m1 : ∀ y : Lat NoX w1, y.world.cell? ⟨k4 + 1, 1, none⟩ = some (.int .i64 gin) := fun y => (HB6.out.ext (Lat.ext0 y)).cell 1 rfl
  have m2 : ∀ y : Lat NoX w1, y.world.cell? ⟨k4 + 1, 2, none⟩ = some (.int .i64 gout) := fun y => (HB6.out.ext (Lat.ext0 y)).cell 2 rfl
  have ml := HB6.out.lt
  refine wp_region_lat (by kernel_rfl) NoX (boxN 3 4) (BoxR 3) (BoxG 3 4 #[.slice none 0 0, .int .i64 0, .int .i64 0, .int .i64 0, .bool false] #[.slice none 0 0, .int .i64 0, .int .i64 0, .int .i64 0, .bool false] w1.heap.size) (by kernel_rfl)
    (fun k hk => by
      simp only [boxN, Bool.or_eq_true, beq_iff_eq] at hk
      rcases hk with rfl | rfl <;> decide)
    (fun L L' u w' h hg => hg.congr (h 3 rfl) (h 4 rfl)) (fun L u a b h hx => h.ext hx) (fun _ => .pointer (some ⟨0, 0, none⟩)) (fun k _ => ⟨0, fun _ => rfl⟩) ⟨fun h => (by cases h)⟩ ?_
  intro T hT hne2 u hu
  obtain ⟨k9, e_box⟩ := hu 3 rfl
  replace e_box := e_box rfl
  refine lx_next 3 (by rfl) (by decide) ?_
  dsimp only [List.take, List.drop]
  repeat (go_big_quiet_step (fail))
  refine wpQuiet_nil ?_
  refine lx_loud (by rfl) (by kernel_rfl) ?_ (fun K hK => ?_)
  · intro L w4 hL hd hcl hC hs
    obtain ⟨y, rfl⟩ := hC
    have h6 := hcl.off hL 40 4 (by kernel_rfl)
    have hy := y.size
    clear hs hd hcl
    go_wp2
    exact ⟨⟨_, fun _ => rfl⟩, ⟨y.ext ((Ext.refl _).alloc _), rfl⟩, ⟨fun _ => ⟨_, rfl, hy, by rw [show upd L 3 4 = L 4 from rfl, h6]; exact Blk.new _ _ _⟩⟩⟩
  rw [e_box]
  go_simp
  with_reducible refine hK _ ?_
  clear hK K
  refine lx_loud (by rfl) (by kernel_rfl) ?_ (fun K hK => ?_)
  · intro L w4 hL hd hcl hC hs
    obtain ⟨y, rfl⟩ := hC
    obtain ⟨k, ek, hk, hbk⟩ := hs.at_ (hd 3 (by kernel_rfl))
    obtain rfl : k9 = k := by have h := e_box.symm.trans ek; cases h; rfl
    rw [hL] at hbk
    have hbk : Blk y.world k9 #[.slice none 0 0, .int .i64 0, .int .i64 0, .int .i64 0, .bool false] := hbk
    have r0 := hbk.cell 0 (v := .slice none 0 0) rfl
    have rf0 := hbk.frozen 0
    have r1 := hbk.cell 1 (v := .int .i64 0) rfl
    have rf1 := hbk.frozen 1
    have r2 := hbk.cell 2 (v := .int .i64 0) rfl
    have rf2 := hbk.frozen 2
    have r3 := hbk.cell 3 (v := .int .i64 0) rfl
    have rf3 := hbk.frozen 3
    have r4 := hbk.cell 4 (v := .bool false) rfl
    have rf4 := hbk.frozen 4
    have rl := hbk.lt
    have HBK := Lib.hid hbk
    have HEK := Lib.hid ek
    have HHK := Lib.hid hk
    clear hs hd hcl hbk ek hk
    go_wp2
    refine ⟨⟨0, fun h => absurd h (by decide)⟩, ⟨y.chgd (five_chg (· = k9) y.world (b := k9) rfl _ _ _ _ _) (fun b hb => .inl (by rw [show b = k9 from hb]; exact HHK.out)), rfl⟩, ⟨fun _ => ⟨k9, HEK.out, HHK.out, five_set HBK.out _ _ _ _ _⟩⟩⟩
  go_simp
  with_reducible refine hK _ ?_
  clear hK K
  refine lx_next 2 (by rfl) (by decide) ?_
  dsimp only [List.take, List.drop]
  repeat (go_big_quiet_step (fail))
  refine wpQuiet_nil ?_
  refine lx_nil ?_
  intro y hs
  obtain ⟨kk, ek, hk, hbk⟩ := hs.at_ rfl
  obtain rfl : k9 = kk := by have h := e_box.symm.trans ek; cases h; rfl
  have HB9 : Hid (Blk y.world k9 #[.slice none 0 0, .int .i64 0, .int .i64 0, .int .i64 0, .bool false]) := Lib.hid hbk
  have Hk9 : Hid (w1.heap.size ≤ k9) := Lib.hid hk
  have HXw2 := Lib.hid (Lat.ext0 y)
  clear hs hbk hk ek e_box hu hT hne2 m0 m1 m2 ml
  generalize y.world = w2 at *
  clear y
  have HLT : Hid (k4 = w.heap.size ∧ k4 + 1 + 1 < w1.heap.size ∧ w1.heap.size ≤ k9 ∧ k9 < w2.heap.size) := Lib.hid ⟨HK4.out, HB8.out.lt, Hk9.out, HB9.out.lt⟩
  have HX2 := Lib.hid (HX1.out.trans HXw2.out)
  have HS0 : Hid (TleV start gin gout bl k9 w2 w2 0 (exa0 start) [] (.slice none 0 0)) := Lib.hid ⟨rfl, rfl, TlX.start hst.1, HB9.out, WaysAt.nil _ _, fun l hl => (by cases hl), Chg.refl _ _⟩
  have HK4B := Lib.hid (HB4.out.ext HXw2.out)
  have HK6B := Lib.hid (HB6.out.ext HXw2.out)
  have HK8B := Lib.hid (HB8.out.ext HXw2.out)
  clear HB4 HB6 HB8 HB9
  go_wp2
  go_loopw [10, 11, 12] (fun a b i wr => ∃ (v : Nat) (x : Exa) (vs : List (List Int)) (vv : Value), v ≤ 15 ∧ i = .int .i64 v ∧ a = .int .i64 x.left ∧ b = .bool x.inn ∧ TleV start gin gout bl k9 w2 wr v x vs vv) (fun _ _ i _ => 15 - (intOf i).toNat)
  case atStart => exact ⟨0, _, _, _, by omega, rfl, rfl, rfl, HS0.out⟩
  case round =>
    obtain ⟨v, x, vs, vv, hv, rfl, rfl, rfl, hI⟩ := hrel
    obtain ⟨wv, rfl⟩ : ∃ y, y = wr := ⟨_, rfl⟩
    have HI := Lib.hid hI
    have hlow : ∀ q, q < k9 → ¬ k9 ≤ q := fun q h1 h2 => by omega
    have HLOW := Lib.hid hlow
    have HC2 := Lib.hid hI.chg
    clear hI hlow HS0
    have p4 := HI.out.box.cell 4 (v := .bool x.won) rfl
    have pl := HI.out.box.lt
    by_cases hgo' : v < 15 ∧ x.won = false
    case neg =>
      go_upto_region 3 with fail
      go_cut [29] (fun v wx => v = .bool false ∧ wx = wv)
      case first =>
        by_cases h15 : v < 15
        · have hw : x.won = true := by
            cases h : x.won
            · exact absurd ⟨h15, h⟩ hgo'
            · rfl
          rw [hw] at p4
          go_wp2
          go_meet
          exact ⟨rfl, rfl⟩
        · go_wp2
          go_meet
          exact ⟨by first | rfl | (rw [decide_eq_false (by omega)]), rfl⟩
      case rest =>
        obtain ⟨hc1, hc2⟩ := hcut
        subst hc1
        subst hc2
        rename World => wv
        obtain ⟨va, vc, hvv⟩ := HI.out.row.shape
        subst hvv
        have HBK := Lib.hid HI.out.box
        obtain ⟨pts, hpts⟩ : ∃ y, x.t.points = y := ⟨_, rfl⟩
        obtain ⟨drt, hdrt⟩ : ∃ y, x.t.darts.lo = y := ⟨_, rfl⟩
        obtain ⟨tri, htri⟩ : ∃ y, x.t.tried.lo = y := ⟨_, rfl⟩
        obtain ⟨wn, hwn⟩ : ∃ y, x.won = y := ⟨_, rfl⟩
        rw [hpts, hdrt, htri, hwn] at HBK
        have HLEN : Hid (vs.length = v) := Lib.hid HI.out.len
        have HEND : Hid (vs.length ≤ 15 ∧ (x.won = false → vs.length = 15)) := Lib.hid (by
          have h := HI.out.len
          refine ⟨by omega, fun hw => ?_⟩
          by_cases h15 : v < 15
          · exact absurd ⟨h15, hw⟩ hgo'
          · omega)
        have HEQS := Lib.hid (And.intro hpts (And.intro hdrt (And.intro htri hwn)))
        have HK8V := Lib.hid (HK8B.out.chg HC2.out (by have h := HLT.out; omega))
        clear hpts hdrt htri hwn hgo' p4 pl
        have d0 := HBK.out.cell 0 (v := .slice va vs.length vc) rfl
        have d1 := HBK.out.cell 1 (v := .int .i64 pts) rfl
        have d2 := HBK.out.cell 2 (v := .int .i64 drt) rfl
        have d3 := HBK.out.cell 3 (v := .int .i64 tri) rfl
        have d4 := HBK.out.cell 4 (v := .bool wn) rfl
        have dl := HBK.out.lt
        have z0 := HK8V.out.cell 0 (v := .slice none 0 0) rfl
        have z1 := HK8V.out.cell 1 (v := .int .i64 0) rfl
        have z2 := HK8V.out.cell 2 (v := .int .i64 0) rfl
        have z3 := HK8V.out.cell 3 (v := .int .i64 0) rfl
        have z4 := HK8V.out.cell 4 (v := .bool false) rfl
        have f0 := HK8V.out.frozen 0
        have f1 := HK8V.out.frozen 1
        have f2 := HK8V.out.frozen 2
        have f3 := HK8V.out.frozen 3
        have f4 := HK8V.out.frozen 4
        have zl := HK8V.out.lt
        go_wp2
        have hs := five_set HK8V.out (.slice va vs.length vc) (.int .i64 pts) (.int .i64 drt) (.int .i64 tri) (.bool wn)
        have hcc := five_chg (· = k4 + 1 + 1) wv (b := k4 + 1 + 1) rfl (.slice va vs.length vc) (.int .i64 pts) (.int .i64 drt) (.int .i64 tri) (.bool wn)
        generalize hW : World.setCell _ _ _ = W at *
        have y0 := hs.cell 0 (v := .slice va vs.length vc) rfl
        have y1 := hs.cell 1 (v := .int .i64 pts) rfl
        have y2 := hs.cell 2 (v := .int .i64 drt) rfl
        have y3 := hs.cell 3 (v := .int .i64 tri) rfl
        have y4 := hs.cell 4 (v := .bool wn) rfl
        have hrow : WaysAt W w.heap.size (.slice va vs.length vc) vs := (HI.out.row.mid hcc (fun q h1 _ h3 => by have h4 := HLT.out; have h5 : q = k4 + 1 + 1 := h3; omega)).mono (by have := HLT.out; omega)
        have hext : Ext w W := Chg.to_ext (Chg.to_ext HX2.out HC2.out (fun q h => by have h1 := HLT.out; have h' : k9 ≤ q := h; omega)) hcc (fun i h => by have := HLT.out; have h' : i = k4 + 1 + 1 := h; omega)
        have hpost : ∃ (vs' : List (List Int)) (x' : Exa) (vv : Value), Ending.returned (Value.agg #[.slice va vs.length vc, .int .i64 pts, .int .i64 drt, .int .i64 tri, .bool wn]) = .returned (.agg #[vv, .int .i64 x'.t.points, .int .i64 x'.t.darts.lo, .int .i64 x'.t.tried.lo, .bool x'.won]) ∧ WaysAt W w.heap.size vv vs' ∧ rxG gin gout bl vs' 0 (exa0 start) = .inl x' ∧ TlX start gout vs'.length x' ∧ (vs'.length ≤ 15 ∧ (x'.won = false → vs'.length = 15)) ∧ (∀ l ∈ vs', (1 ≤ l.length ∧ l.length ≤ 3) ∧ ∀ b ∈ l, BedOk b) ∧ Ext w W :=
          ⟨vs, x, _, by rw [HEQS.out.1, HEQS.out.2.1, HEQS.out.2.2.1, HEQS.out.2.2.2], hrow, HI.out.run, by rw [HLEN.out]; exact HI.out.inv, HEND.out, HI.out.mem, hext⟩
        refine bodyPost_ret (v := .agg #[.slice va vs.length vc, .int .i64 pts, .int .i64 drt, .int .i64 tri, .bool wn]) (by simp [results, Try.results37, go_sem, y0, y1, y2, y3, y4]) rfl hpost
    case pos =>
    obtain ⟨hv15, hwon⟩ := hgo'
    obtain ⟨va, vc, hvv⟩ := HI.out.row.shape
    subst hvv
    rw [hwon] at p4
    have HWON := Lib.hid hwon
    have HST : Hid (StOk start gout x.left x.inn) := Lib.hid (by rcases HI.out.inv.st with h | h; rw [hwon] at h; exact absurd h.1 (by decide); exact h.2)
    clear hwon
    go_upto_block 2 with fail
    have HO5 : Hid (OwnD (wv.alloc (.cells #[] 99)) wv.heap.size (.slice (some ⟨wv.heap.size, 0, none⟩) 0 0) []) := Lib.hid (own_empty rfl (Nat.le_refl _))
    generalize hw5 : World.alloc wv _ = w5
    rw [hw5] at HO5
    have HX5 : Hid (Ext wv w5) := Lib.hid (by rw [← hw5]; exact (Ext.refl _).alloc _)
    obtain ⟨B5, hB5⟩ : ∃ y, y = wv.heap.size := ⟨_, rfl⟩
    rw [← hB5]
    rw [← hB5] at HO5
    have HB5L : Hid (B5 = wv.heap.size ∧ k9 < B5) := Lib.hid ⟨hB5, by rw [hB5]; exact pl⟩
    clear hw5 hB5 p4 pl
    have HBX5 := Lib.hid (HI.out.box.ext HX5.out)
    obtain ⟨pts, hpts⟩ : ∃ y, x.t.points = y := ⟨_, rfl⟩
    obtain ⟨drt, hdrt⟩ : ∃ y, x.t.darts.lo = y := ⟨_, rfl⟩
    obtain ⟨tri, htri⟩ : ∃ y, x.t.tried.lo = y := ⟨_, rfl⟩
    have HXV : Hid (x.t.points = pts ∧ x.t.darts.lo = drt ∧ x.t.tried.lo = tri) := Lib.hid ⟨hpts, hdrt, htri⟩
    rw [hpts, hdrt, htri, HWON.out] at HBX5
    have HTB : Hid (0 ≤ tri ∧ tri ≤ 100 ∧ 0 ≤ drt ∧ drt ≤ 100 ∧ 0 ≤ pts ∧ pts ≤ 1001) := Lib.hid (by
      have h1 := HI.out.inv.dar
      have h2 := HI.out.inv.tri
      have h3 := HI.out.inv.pts
      have h4 := HST.out
      have h5 := leastS_pos gout
      have h6 := h4.1
      have h7 := h4.2.1
      refine ⟨by omega, by omega, by omega, by omega, by omega, by omega⟩)
    clear hpts hdrt htri
    obtain ⟨xl, hxl⟩ : ∃ y, x.left = y := ⟨_, rfl⟩
    obtain ⟨xi, hxi⟩ : ∃ y, x.inn = y := ⟨_, rfl⟩
    rw [hxl, hxi]
    have HXL := Lib.hid hxl
    have HXI := Lib.hid hxi
    clear hxl hxi
    have HC5 : Hid (Chg (fun q => k9 ≤ q) w2 w5) := Lib.hid (HC2.out.trans (HX5.out.chg _))
    have HXW5 : Hid (Ext w w5) := Lib.hid (Chg.to_ext HX2.out HC5.out (fun q h => by have h1 := HLT.out; have h' : k9 ≤ q := h; omega))
    have HLT2 : Hid (k4 = w.heap.size ∧ k4 + 1 + 1 < k9) := Lib.hid (by have h := HLT.out; omega)
    have HB5L2 : Hid (B5 ≤ w5.heap.size ∧ k9 < B5) := Lib.hid (by have h := HB5L.out; have h2 := HX5.out.size; omega)
    have HK45 := Lib.hid (HK4B.out.chg HC5.out (by have h := HLT.out; omega))
    have HK65 := Lib.hid (HK6B.out.chg HC5.out (by have h := HLT.out; omega))
    refine tale_visit _ (by kernel_rfl) n ba sa ha la bc sc hc lc bl start gin gout at_ v k4 k9 B5 w w5 HA HB HBB HBO hbl (by omega) hgi hgo hat hv15 HLT2 HB5L2 HXW5 HK45 HK65 x HST xl xi HXL HXI (.slice va vs.length vc) pts drt tri (Lib.hid ⟨HTB.out.1, HTB.out.2.1⟩) HBX5 (some ⟨B5, 0, none⟩) 0 HO5 _ ?_
    intro r16 r17 r18 r19 r35 r36 r37 r38 r39 r40 r41 r42 r43 r44 r45 r46 r47 r48 r49 r50 r51 r52 r53 r54 r55 r56 r57 r58 r59 r60 r61 r62 r63 r64 r65 r66 r67 r68 r69 r70 r71 r72 r73 r74 r75 r76 r77 r78 r79 r80 r81 r82 r83 r84 r85 r86 r87 r88 r89 r90 r91 r92 r93 r94 r95 r96 r97 r98 r99 r100 r101 r102 r103 r104 r105 r106 r107 r108 r109 r110 r111 r112 r113 r114 r115 r116 r117 r118 r119 r120 r121 r122 r123 r124 r125 r126 r127 r128 r129 r130 r131 r132 r133 r134 r135 r136 r137 r138 r139 r140 r141 r142 r143 r144 r145 r146 r147 r148 r149 bs r bv nl ni w6 hE enl eni ho hb hc5
    rename_i K0 a0
    refine a0 _ _ ?_
    have hc : Chg (fun q => q = k9 ∨ B5 ≤ q) wv w6 := (HX5.out.chg _).trans hc5
    clear hc5 HC5 HXW5 HLT2 HB5L2 HK45 HK65
    obtain ⟨ba2, bc2, rfl⟩ := ho.shape
    have hnx := HI.out.inv.next (by omega) (by omega) HWON.out hE
    have hrx := rxG_snoc vs 0 (exa0 start) x bs HI.out.run (hE.rx HWON.out).1
    rw [(hE.rx HWON.out).2] at hrx
    have hw2 := rxU_won x bs.length r
    have HEL := Lib.hid (And.intro hE.len hE.mem)
    have hb3 : bs.length ≤ 3 := hE.len.2
    obtain ⟨X2, hX2⟩ : ∃ X, rxU x bs.length r = X := ⟨_, rfl⟩
    rw [hX2] at hnx hrx hw2 enl eni
    obtain ⟨tr2, htr2⟩ : ∃ y, tri + r.tried = y := ⟨_, rfl⟩
    obtain ⟨wn2, hwn2⟩ : ∃ y, (r.eff == 1) = y := ⟨_, rfl⟩
    have hnl := enl.symm
    have hni := eni.symm
    rw [htr2, hwn2] at hb
    have HN2 : Hid (TlX start gout (v + 1) X2 ∧ X2.t.points = pts + xl - nl ∧ X2.t.darts.lo = drt + bs.length ∧ X2.t.tried.lo = tr2 ∧ X2.won = wn2 ∧ X2.left = nl ∧ X2.inn = ni) := Lib.hid (by
      have h := HXV.out
      have h2 := HXL.out
      obtain ⟨n1, n2, n3, n4⟩ := hnx
      exact ⟨n1, by omega, by omega, by omega, by rw [hw2, hwn2], hnl, hni⟩)
    have hnb : 0 ≤ nl ∧ nl ≤ 1001 := by
      have h := HN2.out.1.pts
      have h2 := HN2.out.1.st
      have h3 := leastS_pos gout
      rw [HN2.out.2.2.2.2.2.1] at h2
      rcases h2 with h2 | h2
      · omega
      · have h4 := h2.2.1
        have h5 := h2.2.2.1
        omega
    have HRX := Lib.hid hrx
    have HB6 := Lib.hid hb
    have HC6 := Lib.hid hc
    have HO6 := Lib.hid ho
    clear hnx hrx hw2 hX2 htr2 hwn2 hnl hni hE hb hc ho enl eni
    have hrow6 : WaysAt w6 (k9 + 1) (.slice va vs.length vc) vs := HI.out.row.mid HC6.out (by
      intro q h1 h2 h3
      have h4 := HB5L.out
      rcases h3 with h3 | h3 <;> omega)
    obtain ⟨vals, hv1, hv2, hv3⟩ := hrow6
    have HV1 := Lib.hid hv1
    have HV2 := Lib.hid hv2
    have HV3 := Lib.hid hv3
    have HK9S : Hid (k9 < w6.heap.size) := Lib.hid HB6.out.lt
    have hvl : vs.length ≤ 15 := by have := HI.out.len; omega
    obtain ⟨tb0, tb1, tb2, tb3, tb4, tb5⟩ := HTB.out
    have hxlb : 1 ≤ xl ∧ xl ≤ 1001 := by
      have h := HST.out
      have h2 := leastS_pos gout
      rw [HXL.out] at h
      have h3 := h.1
      have h4 := h.2.1
      omega
    clear hv1 hv2 hv3
    go_upto_region 26 with fail
    refine wp_region_lat (by kernel_rfl) (fun b _ => b = k9 ∨ (Value.slice va vs.length vc).ownBlock = some b) (fun k => (k == 1) || ((k == 3) || ((k == 4) || ((k == 6) || ((k == 12) || ((k == 17) || ((k == 19) || (k == 21)))))))) (R26 vs.length (.slice va vs.length vc) pts drt) (G26 k9 vs.length w6.heap.size (.slice va vs.length vc) vals (.slice ba2 bs.length bc2) pts (pts + xl - nl) drt (drt + bs.length) tr2 wn2) (by kernel_rfl)
      (fun k hk => by
        simp only [Bool.or_eq_true, beq_iff_eq] at hk
        rcases hk with rfl | rfl | rfl | rfl | rfl | rfl | rfl | rfl <;> decide)
      (fun L L' u w' h hg => hg.congr (h 3 rfl) (h 4 rfl) (h 17 rfl) (h 19 rfl) (h 21 rfl) rfl rfl) (fun L u a b h hx => h.ext hx) (w26 vs.length (.slice va vs.length vc) pts drt) (fun k _ => w26_ok _ _ _ _ k) (G26.ext ⟨HB6.out, fun h => absurd h (by decide), fun _ => HV1.out, fun h => absurd h (by decide)⟩ (Ext.refl w6).drew) ?_
    intro T hT hne2 u hu
    have e_1 : u 1 = (.slice va vs.length vc) := (hu 1 rfl).1 rfl
    have e_6 : u 6 = .int .i64 pts := (hu 6 rfl).2.1 rfl
    have e_12 : u 12 = .int .i64 drt := (hu 12 rfl).2.2.1 rfl
    obtain ⟨b3, e_3⟩ := (hu 3 rfl).2.2.2.1 rfl
    obtain ⟨a4, c4, e_4⟩ := (hu 4 rfl).2.2.2.2 rfl
    refine lx_next 1 (by rfl) (by decide) ?_
    dsimp only [List.take, List.drop]
    repeat (go_big_quiet_step (fail))
    refine wpQuiet_nil ?_
    refine lx_loud (by rfl) (by kernel_rfl) ?_ (fun K hK => ?_)
    · intro L w4 hL hd hcl hC hs
      obtain ⟨y, rfl⟩ := hC
      have dd := hcl.off hL 40 17 (by kernel_rfl)
      have hb := hs.blk
      rw [dd] at hb
      have hb : Blk y.world k9 #[(.slice va vs.length vc), .int .i64 (bif L 19 then (pts + xl - nl) else pts), .int .i64 (bif L 21 then (drt + bs.length) else drt), .int .i64 tr2, .bool wn2] := hb
      have r0 := hb.cell 0 (v := (.slice va vs.length vc)) rfl
      have rl := hb.lt
      have HS := Lib.hid hs
      clear hs hd hcl hb dd hL
      go_wp2
      exact ⟨⟨fun _ => rfl, fun h => absurd h (by decide), fun h => absurd h (by decide), fun h => absurd h (by decide), fun h => absurd h (by decide)⟩, ⟨y, rfl⟩, HS.out.congr rfl rfl rfl rfl rfl rfl rfl⟩
    rw [e_1]
    go_simp
    with_reducible refine hK _ ?_
    clear hK K
    refine lx_next 1 (by rfl) (by decide) ?_
    dsimp only [List.take, List.drop]
    repeat (go_big_quiet_step (fail))
    refine wpQuiet_nil ?_
    refine lx_loud (by rfl) (by kernel_rfl) ?_ (fun K hK => ?_)
    · intro L w4 hL hd hcl hC hs
      obtain ⟨y, rfl⟩ := hC
      have HS := Lib.hid hs
      have hy := y.size
      have h4 := hcl.off hL 40 4 (by kernel_rfl)
      have H4 := Lib.hid h4
      clear hs hd hcl hL h4
      go_wp2
      refine ⟨⟨fun h => absurd h (by decide), fun h => absurd h (by decide), fun h => absurd h (by decide), fun _ => ⟨_, rfl⟩, fun h => absurd h (by decide)⟩, ⟨y.ext ((Ext.refl _).alloc _), rfl⟩, ?_⟩
      have h := HS.out.ext ((Ext.refl y.world).alloc (.cells #[.slice ba2 bs.length bc2] 25))
      exact ⟨h.blk, fun _ => ⟨_, rfl, hy, (Blk.new y.world _ _).cell 0 rfl⟩, h.row, h.row'⟩
    rw [e_3]
    go_simp
    with_reducible refine hK _ ?_
    clear hK K
    refine lx_loud (by rfl) (by kernel_rfl) ?_ (fun K hK => ?_)
    · intro L w4 hL hd hcl hC hs
      obtain ⟨y, rfl⟩ := hC
      have h3 := hd 3 (by kernel_rfl)
      have h17 := hcl.off hL 40 17 (by kernel_rfl)
      obtain ⟨b, eb, hbs, hbc⟩ := hs.box h3
      obtain rfl : b3 = b := by rw [e_3] at eb; cases eb; rfl
      have hrw := hs.row hL
      have HS := Lib.hid hs
      have HBB3 := Lib.hid (And.intro hbs hbc)
      have HRW := Lib.hid hrw
      have H3 := Lib.hid h3
      have H17 := Lib.hid h17
      have hbz := y.size
      have hlt3 := lt_of_cell hbc
      simp only at hlt3
      clear hs hd hcl hL h3 h17 eb hbs hrw
      go_wp2_with (at_builtin; refine wp_append_from rfl _ _ 46 25 _ 1 24 rfl info_beds (by kernel_rfl) rfl (by decide) (k9 + 1) (.slice va vs.length vc) vs.length vals rfl HRW.out (some ⟨b3, 0, none⟩) 1 1 [.slice ba2 bs.length bc2] rfl (fun h => by cases h) rfl ?_ ?_ (by omega) (by omega) (by have h1 := HK9S.out; omega) ?_)
      any_goals first
        | rfl
        | (intro u hu; rw [List.mem_singleton.1 hu]; rfl)
        | (intro ad had j u hj
           cases had
           match j, hj with
           | 0, hj => cases hj; rw [addr_add]; exact HBB3.out.2)
      intro v' w5 hO hg hn
      obtain ⟨av, ac, rfl⟩ := own_shape hO
      have HO := Lib.hid hO
      have HG := Lib.hid hg
      clear hO hg hn hbc
      go_wp2
      refine ⟨⟨fun h => absurd h (by decide), fun h => absurd h (by decide), fun h => absurd h (by decide), fun h => absurd h (by decide), fun _ => ⟨_, _, rfl⟩⟩, ⟨y.chgd HG.out (fun b hb => .inr fun _ => .inr hb), rfl⟩, ?_⟩
      have hown : ∀ q, (Value.slice va vs.length vc).ownBlock = some q → k9 + 1 ≤ q ∧ q < w6.heap.size := fun q hq => World.ownsRow.lt HV1.out q hq
      refine ⟨?_, fun _ => ⟨b3, e_3, HBB3.out.1, HG.out.cell HBB3.out.2 (fun e => by have h1 := (hown _ e).2; have h2 := HBB3.out.1; simp only at h1; omega)⟩, fun h => Bool.noConfusion (show true = false from h), fun _ => HO.out⟩
      have hb := HS.out.blk
      rw [H17.out] at hb
      have hb2 := hb.chg HG.out (fun e => by have h1 := (hown _ e).1; omega)
      rw [show upd L 4 17 = L 17 from rfl, H17.out]
      exact hb2
    rw [e_4]
    go_simp
    with_reducible refine hK _ ?_
    clear hK K
    refine lx_next 1 (by rfl) (by decide) ?_
    dsimp only [List.take, List.drop]
    repeat (go_big_quiet_step (fail))
    refine wpQuiet_nil ?_
    refine lx_loud (by rfl) (by kernel_rfl) ?_ (fun K hK => ?_)
    · intro L w4 hL hd hcl hC hs
      obtain ⟨y, rfl⟩ := hC
      have dd := hcl.off hL 40 19 (by kernel_rfl)
      have hb := hs.blk
      rw [dd] at hb
      have hb : Blk y.world k9 #[(bif L 17 then u 4 else (.slice va vs.length vc)), .int .i64 pts, .int .i64 (bif L 21 then (drt + bs.length) else drt), .int .i64 tr2, .bool wn2] := hb
      have r0 := hb.cell 1 (v := .int .i64 pts) rfl
      have rl := hb.lt
      have HS := Lib.hid hs
      clear hs hd hcl hb dd hL
      go_wp2
      exact ⟨⟨fun h => absurd h (by decide), fun _ => rfl, fun h => absurd h (by decide), fun h => absurd h (by decide), fun h => absurd h (by decide)⟩, ⟨y, rfl⟩, HS.out.congr rfl rfl rfl rfl rfl rfl rfl⟩
    rw [e_6]
    go_simp
    with_reducible refine hK _ ?_
    clear hK K
    refine lx_next 5 (by rfl) (by decide) ?_
    dsimp only [List.take, List.drop]
    repeat (go_big_quiet_step (fail))
    refine wpQuiet_nil ?_
    refine lx_loud (by rfl) (by kernel_rfl) ?_ (fun K hK => ?_)
    · intro L w4 hL hd hcl hC hs
      obtain ⟨y, rfl⟩ := hC
      have dd := hcl.off hL 40 21 (by kernel_rfl)
      have hb := hs.blk
      rw [dd] at hb
      have hb : Blk y.world k9 #[(bif L 17 then u 4 else (.slice va vs.length vc)), .int .i64 (bif L 19 then (pts + xl - nl) else pts), .int .i64 drt, .int .i64 tr2, .bool wn2] := hb
      have r0 := hb.cell 2 (v := .int .i64 drt) rfl
      have rl := hb.lt
      have HS := Lib.hid hs
      clear hs hd hcl hb dd hL
      go_wp2
      exact ⟨⟨fun h => absurd h (by decide), fun h => absurd h (by decide), fun _ => rfl, fun h => absurd h (by decide), fun h => absurd h (by decide)⟩, ⟨y, rfl⟩, HS.out.congr rfl rfl rfl rfl rfl rfl rfl⟩
    rw [e_12]
    go_simp
    with_reducible refine hK _ ?_
    clear hK K
    refine lx_next 4 (by rfl) (by decide) ?_
    dsimp only [List.take, List.drop]
    repeat (go_big_quiet_step (fail))
    refine wpQuiet_nil ?_
    refine lx_loud (by rfl) (by kernel_rfl) ?_ (fun K hK => ?_)
    · intro L w4 hL hd hcl hC hs
      obtain ⟨y, rfl⟩ := hC
      have hb := hs.blk
      rw [hL] at hb
      have r0 := hb.cell 0 (v := (.slice va vs.length vc)) rfl
      have rf := hb.frozen 0
      have rl := hb.lt
      have HS := Lib.hid hs
      have HBK := Lib.hid hb
      clear hs hd hcl hb hL
      go_wp2
      exact ⟨⟨fun h => absurd h (by decide), fun h => absurd h (by decide), fun h => absurd h (by decide), fun h => absurd h (by decide), fun h => absurd h (by decide)⟩, ⟨y.chgd ((Chg.refl (· = k9) y.world).setCell (p := ⟨k9, 0, none⟩) (.inr rfl) (.slice a4 (vs.length + 1) c4)) (fun b hb => .inr fun _ => .inl hb), rfl⟩, (HS.out.set (L' := upd L 17) (u' := u) HK9S.out rfl rfl rfl rfl 0 (.slice a4 (vs.length + 1) c4) (by have e : (bif upd L 17 17 then u 4 else (.slice va vs.length vc)) = .slice a4 (vs.length + 1) c4 := e_4; rw [e]; exact HBK.out.set 0 _)).congr rfl rfl rfl rfl rfl rfl rfl⟩
    go_simp
    with_reducible refine hK _ ?_
    clear hK K
    refine lx_next 1 (by rfl) (by decide) ?_
    dsimp only [List.take, List.drop]
    repeat (go_big_quiet_step (fail))
    refine wpQuiet_nil ?_
    refine lx_loud (by rfl) (by kernel_rfl) ?_ (fun K hK => ?_)
    · intro L w4 hL hd hcl hC hs
      obtain ⟨y, rfl⟩ := hC
      have hb := hs.blk
      rw [hL] at hb
      have r0 := hb.cell 1 (v := .int .i64 pts) rfl
      have rf := hb.frozen 1
      have rl := hb.lt
      have HS := Lib.hid hs
      have HBK := Lib.hid hb
      clear hs hd hcl hb hL
      go_wp2
      exact ⟨⟨fun h => absurd h (by decide), fun h => absurd h (by decide), fun h => absurd h (by decide), fun h => absurd h (by decide), fun h => absurd h (by decide)⟩, ⟨y.chgd ((Chg.refl (· = k9) y.world).setCell (p := ⟨k9, 1, none⟩) (.inr rfl) (.int .i64 (pts + xl - nl))) (fun b hb => .inr fun _ => .inl hb), rfl⟩, (HS.out.set (L' := upd L 19) (u' := u) HK9S.out rfl rfl rfl rfl 1 (.int .i64 (pts + xl - nl)) (HBK.out.set 1 (.int .i64 (pts + xl - nl)))).congr rfl rfl rfl rfl rfl rfl rfl⟩
    go_simp
    with_reducible refine hK _ ?_
    clear hK K
    refine lx_next 1 (by rfl) (by decide) ?_
    dsimp only [List.take, List.drop]
    repeat (go_big_quiet_step (fail))
    refine wpQuiet_nil ?_
    refine lx_loud (by rfl) (by kernel_rfl) ?_ (fun K hK => ?_)
    · intro L w4 hL hd hcl hC hs
      obtain ⟨y, rfl⟩ := hC
      have hb := hs.blk
      rw [hL] at hb
      have r0 := hb.cell 2 (v := .int .i64 drt) rfl
      have rf := hb.frozen 2
      have rl := hb.lt
      have HS := Lib.hid hs
      have HBK := Lib.hid hb
      clear hs hd hcl hb hL
      go_wp2
      exact ⟨⟨fun h => absurd h (by decide), fun h => absurd h (by decide), fun h => absurd h (by decide), fun h => absurd h (by decide), fun h => absurd h (by decide)⟩, ⟨y.chgd ((Chg.refl (· = k9) y.world).setCell (p := ⟨k9, 2, none⟩) (.inr rfl) (.int .i64 (drt + bs.length))) (fun b hb => .inr fun _ => .inl hb), rfl⟩, (HS.out.set (L' := upd L 21) (u' := u) HK9S.out rfl rfl rfl rfl 2 (.int .i64 (drt + bs.length)) (HBK.out.set 2 (.int .i64 (drt + bs.length)))).congr rfl rfl rfl rfl rfl rfl rfl⟩
    go_simp
    with_reducible refine hK _ ?_
    clear hK K
    refine lx_nil ?_
    intro y hs
    have HB7 : Hid (Blk y.world k9 #[.slice a4 (vs.length + 1) c4, .int .i64 (pts + xl - nl), .int .i64 (drt + bs.length), .int .i64 tr2, .bool wn2]) := Lib.hid (by have h := hs.blk; rw [e_4] at h; exact h)
    have HR7 : Hid (y.world.ownsRow (k9 + 1) 25 1 (.slice a4 (vs.length + 1) c4) (vs.length + 1) (vals ++ [.slice ba2 bs.length bc2])) := Lib.hid (by have h := hs.row' rfl; rw [e_4] at h; exact h)
    have HC7 : Hid (Chg (fun b => b = k9 ∨ (Value.slice va vs.length vc).ownBlock = some b) w6 y.world) := Lib.hid (y.chg.mono (by rintro q - ⟨_, e⟩; exact e))
    clear hs hu hT hne2 e_1 e_3 e_4 e_6 e_12
    generalize y.world = w7 at *
    clear y
    have HR7' : Hid (WaysAt w7 (k9 + 1) (.slice a4 (vs.length + 1) c4) (vs ++ [bs])) := Lib.hid (WaysAt.snoc2 HV1.out HV2.out HV3.out (own_mono HO6.out (by have := HB5L.out; omega)) HR7.out HC7.out (fun q hq => by rcases hq with h | h; exact .inl (by omega); exact .inr h))
    have HI7 : Hid (TleV start gin gout bl k9 w2 w7 (v + 1) X2 (vs ++ [bs]) (.slice a4 (vs.length + 1) c4)) := Lib.hid ⟨by rw [List.length_append, HI.out.len]; rfl, HRX.out, HN2.out.1, by
        obtain ⟨-, n2, n3, n4, n5, -, -⟩ := HN2.out
        rw [n2, n3, n4, n5]
        exact HB7.out, HR7'.out, fun l hl => by
        rcases List.mem_append.1 hl with h | h
        · exact HI.out.mem l h
        · rw [List.mem_singleton.1 h]; exact HEL.out, (HC2.out.trans (HC6.out.mono (fun q _ h => by have h1 := HB5L.out; rcases h with h | h <;> omega))).trans (HC7.out.mono (fun q _ h => by
        rcases h with h | h
        · omega
        · have := (World.ownsRow.lt HV1.out q h).1; omega))⟩
    have HNLI := Lib.hid HN2.out.2.2.2.2.2
    clear HB7 HR7 HC7 HR7' HN2 HRX hxlb hnb tb0 tb1 tb2 tb3 tb4 tb5
    go_wp2
    go_roundw
    case rel => exact ⟨v + 1, X2, vs ++ [bs], _, by omega, by go_num, by rw [HNLI.out.1], by rw [HNLI.out.2], HI7.out⟩
    case measure => simp [intOf]; omega
end Go.Proofs.Ytmopadnkjlodnaa
