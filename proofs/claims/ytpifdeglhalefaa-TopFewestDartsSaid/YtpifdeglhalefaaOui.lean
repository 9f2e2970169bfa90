/-
  Package out: rules with a score; how many ways out there are.
-/
import Derived.Test.YtpifdeglhalefaaOug
import Derived.Test.YtpifdeglhalefaaOuh
namespace Go.Proofs.Ytpifdeglhalefaa
open Go.RowKit Go.BigFrame
attribute [local go_sem] Oper.semAt_some Later.cell Later.frozen Lat.cell Lat.frozen NoX
theorem isBed_wrt {b : Int} (h : isBedB b = true) : (0 ≤ b ∧ b ≤ 499) ∧ 1 ≤ wrt b ∧ wrt b ≤ 80 := by
  unfold isBedB at h
  simp only [Bool.or_eq_true, Bool.and_eq_true, beq_iff_eq] at h
  rcases h with (rfl | rfl) | ⟨h, h'⟩
  · exact ⟨⟨by decide, by decide⟩, by decide, by decide⟩
  · exact ⟨⟨by decide, by decide⟩, by decide, by decide⟩
  · rw [insO_one] at h h'
    have hm := Int.mul_tdiv_add_tmod b 100
    have h1 : 1 ≤ b.tdiv 100 ∧ b.tdiv 100 ≤ 4 := h
    have h2 : 1 ≤ b.tmod 100 ∧ b.tmod 100 ≤ 20 := h'
    refine ⟨⟨by omega, by omega⟩, ?_⟩
    unfold wrt
    have hp := Int.mul_le_mul h.1 h'.1 (by decide) (by omega)
    have hq := Int.mul_le_mul h.2 h'.2 (by omega) (by decide)
    omega
/-- What valid rules are. -/
theorem rul_parts {beds : List Int} {g darts : Int} (h : rulO beds g darts = true) : (1 ≤ beds.length ∧ beds.length ≤ 82) ∧ (∀ x ∈ beds, isBedB x = true) ∧ (0 ≤ g ∧ g ≤ 2) ∧ (1 ≤ darts ∧ darts ≤ 9) := by
  unfold rulO areB at h
  simp only [Bool.and_eq_true] at h
  obtain ⟨⟨h1, h2⟩, h3, h4⟩ := h
  rw [insO_one] at h2 h3 h4
  refine ⟨⟨by omega, by omega⟩, fun x hx => ?_, h3, h4⟩
  obtain ⟨i, hi, rfl⟩ := List.mem_iff_getElem.1 hx
  exact ((bedsB_iff beds).1 h1 i hi hi).1
theorem rul_wrt {beds : List Int} {g darts : Int} (h : rulO beds g darts = true) : beds.length ≤ 1000 ∧ ∀ x ∈ beds, I64 x ∧ 1 ≤ wrt x ∧ wrt x ≤ 100 := by
  obtain ⟨h1, h2, -, -⟩ := rul_parts h
  refine ⟨by omega, fun x hx => ?_⟩
  have := isBed_wrt (h2 x hx)
  exact ⟨⟨by omega, by omega⟩, by omega, by omega⟩
/-- The variable of a finish. -/
def FinT (W : World) (F : Nat) (cs : Array Value) : Prop := W.heap[F]? = some (.cells cs 128 (0, 0))
theorem FinT.blk {W : World} {F : Nat} {cs : Array Value} (h : FinT W F cs) : Blk W F cs := ⟨_, h⟩
theorem FinT.ext {W W' : World} {F : Nat} {cs : Array Value} (h : FinT W F cs) (hx : Ext W W') : FinT W' F cs := hx.heap h
theorem FinT.set {W : World} {F : Nat} {cs : Array Value} (h : FinT W F cs) (j : Nat) (v : Value) : FinT (W.setCell ⟨F, j, none⟩ v) F (cs.setIfInBounds j v) := by
  obtain ⟨hlt, he⟩ := Array.getElem?_eq_some_iff.1 h
  unfold FinT
  simp only [World.setCell]
  rw [Array.getElem?_eq_getElem (by rw [Array.size_modify]; exact hlt), Array.getElem_modify_self, he]
  rfl
theorem FinT.set5 {W : World} {F : Nat} {v0 v1 v2 v3 v4 : Value} (h : FinT W F #[v0, v1, v2, v3, v4]) (x0 x1 x2 x3 x4 : Value) : FinT (((((W.setCell ⟨F, 0, none⟩ x0).setCell ⟨F, 1, none⟩ x1).setCell ⟨F, 2, none⟩ x2).setCell ⟨F, 3, none⟩ x3).setCell ⟨F, 4, none⟩ x4) F #[x0, x1, x2, x3, x4] := by
  have h0 : FinT _ F #[x0, v1, v2, v3, v4] := h.set 0 x0
  have h1 : FinT _ F #[x0, x1, v2, v3, v4] := h0.set 1 x1
  have h2 : FinT _ F #[x0, x1, x2, v3, v4] := h1.set 2 x2
  have h3 : FinT _ F #[x0, x1, x2, x3, v4] := h2.set 3 x3
  have h4 : FinT _ F #[x0, x1, x2, x3, x4] := h3.set 4 x4
  exact h4
theorem five_chgF (S : Nat → Prop) (w : World) {b : Nat} (hb : S b) (x0 x1 x2 x3 x4 : Value) : Chg S w (((((w.setCell ⟨b, 0, none⟩ x0).setCell ⟨b, 1, none⟩ x1).setCell ⟨b, 2, none⟩ x2).setCell ⟨b, 3, none⟩ x3).setCell ⟨b, 4, none⟩ x4) :=
  (((((Chg.refl S w).setCell (.inr hb) x0).setCell (.inr hb) x1).setCell (.inr hb) x2).setCell (.inr hb) x3).setCell (.inr hb) x4
/-- A board that counts ways, as it lies. -/
def BrdO (W : World) (base kb : Nat) (beds : List Int) (g : Int) (most darts : Nat) : Prop := ∃ ba bc cv, base ≤ kb ∧ Blk W kb #[.slice ba beds.length bc, .int .i64 g, cv] ∧ W.ownsRow base 124 1 (.slice ba beds.length bc) beds.length (beds.map (Value.int .i64)) ∧ RowsO W base cv (rwsO g beds most darts)
theorem BrdO.ext {W W' : World} {base kb : Nat} {beds : List Int} {g : Int} {most darts : Nat} (h : BrdO W base kb beds g most darts) (hx : Ext W W') : BrdO W' base kb beds g most darts :=
  let ⟨ba, bc, cv, h1, h2, h3, h4⟩ := h; ⟨ba, bc, cv, h1, h2.ext hx, own_chg h3 (hx.chg fun _ => False) fun _ _ => id, h4.ext hx⟩
def finC (v : Value) (la : Option Addr) (n lc : Nat) (g : Int) (darts s : Nat) : Array Value := #[v, .slice la n lc, .int .i64 g, .int .i64 darts, .int .i64 s]
/-- What is known while a board is made and put into a finish (operations: i7 the board, i11 the store). -/
structure GFi (s0 F : Nat) (beds : List Int) (la : Option Addr) (lc : Nat) (g : Int) (darts s : Nat) (L : Nat → Bool) (u : Nat → Value) (W : World) : Prop where
  brd : L 7 = true → ∃ kb ba bc cv, u 7 = .pointer (some ⟨kb, 0, none⟩) ∧ s0 ≤ kb ∧ Blk W kb #[.slice ba beds.length bc, .int .i64 g, cv] ∧ W.ownsRow s0 124 1 (.slice ba beds.length bc) beds.length (beds.map (Value.int .i64)) ∧ RowsO W s0 cv (rwsO g beds s darts)
  fin : FinT W F (bif L 11 then finC (u 7) la beds.length lc g darts s else #[.pointer none, .slice none 0 0, .int .i64 0, .int .i64 0, .int .i64 0])
theorem GFi.congr {s0 F : Nat} {beds : List Int} {la : Option Addr} {lc : Nat} {g : Int} {darts s : Nat} {L L' : Nat → Bool} {u u' : Nat → Value} {W : World} (h : GFi s0 F beds la lc g darts s L u W) (h7 : L' 7 = L 7) (h11 : L' 11 = L 11) (u7 : u' 7 = u 7) : GFi s0 F beds la lc g darts s L' u' W :=
  ⟨by rw [h7, u7]; exact h.brd, by rw [h11, u7]; exact h.fin⟩
theorem GFi.ext {s0 F : Nat} {beds : List Int} {la : Option Addr} {lc : Nat} {g : Int} {darts s : Nat} {L : Nat → Bool} {u : Nat → Value} {W W' : World} (h : GFi s0 F beds la lc g darts s L u W) (hx : Ext W W') : GFi s0 F beds la lc g darts s L u W' :=
  ⟨fun e => let ⟨kb, ba, bc, cv, h1, h2, h3, h4, h5⟩ := h.brd e; ⟨kb, ba, bc, cv, h1, h2, h3.ext hx, own_chg h4 (hx.chg fun _ => False) fun _ _ => id, h5.ext hx⟩, h.fin.ext hx⟩
def RFi (k : Nat) (v : Value) : Prop := k = 7 → ∃ b, v = .pointer (some ⟨b, 0, none⟩)
set_option maxRecDepth 100000 in
set_option maxHeartbeats 8000000 in
theorem out_newFinish (beds : List Int) (la : Option Addr) (lc : Nat) (g : Int) (darts s : Nat) (w : World) (hc : CellsAt w .i64 la beds) (hr : rulO beds g darts = true) (hs : 1 ≤ s ∧ s ≤ 1001) :
    Calls Try.prog 44 #[.agg #[.slice la beds.length lc, .int .i64 g, .int .i64 darts], .int .i64 s] w fun e w' => ∃ kb, e = .returned (.tuple #[.agg #[.pointer (some ⟨kb, 0, none⟩), .slice la beds.length lc, .int .i64 g, .int .i64 darts, .int .i64 s], .int .i64 0]) ∧ BrdO w' w.heap.size kb beds g s darts ∧ Ext w w' := by
  have hp := rul_parts hr
  have hv := rul_wrt hr
  have HV := Lib.hid hv
  have HR := Lib.hid hr
  have HC := Lib.hid hc
  have hd9 : darts ≤ 9 := by omega
  clear hp hv hr hc
  go_enter Try.func44, Try.ntmps44
  go_upto_region 1 with fail
  obtain ⟨w1, hw1⟩ : ∃ y, y = (w.alloc (.cells #[.slice la beds.length lc, .int .i64 g, .int .i64 darts] 74)).alloc (.cells #[.pointer none, .slice none 0 0, .int .i64 0, .int .i64 0, .int .i64 0] 128) := ⟨_, rfl⟩
  rw [← hw1]
  have HX1 : Hid (Ext w w1) := Lib.hid (by rw [hw1]; exact ((Ext.refl w).alloc _).alloc _)
  have HU1 : Hid (Blk w1 w.heap.size #[.slice la beds.length lc, .int .i64 g, .int .i64 darts]) := Lib.hid (by rw [hw1]; exact (Blk.new w _ _).alloc _)
  have HF1 : Hid (FinT w1 (w.heap.size + 1) #[.pointer none, .slice none 0 0, .int .i64 0, .int .i64 0, .int .i64 0]) := Lib.hid (by rw [hw1]; have h := World.alloc_heap_new (w.alloc (.cells #[.slice la beds.length lc, .int .i64 g, .int .i64 darts] 74)) (.cells #[.pointer none, .slice none 0 0, .int .i64 0, .int .i64 0, .int .i64 0] 128); rwa [World.size_alloc] at h)
  have hsz : w1.heap.size = w.heap.size + 2 := by rw [hw1]; simp
  clear hw1
  obtain ⟨U, hU⟩ : ∃ y, y = w.heap.size := ⟨_, rfl⟩
  obtain ⟨F, hF⟩ : ∃ y, y = w.heap.size + 1 := ⟨_, rfl⟩
  rw [← hF, ← hU]
  rw [← hF] at HF1
  rw [← hU] at HU1
  have HUF := Lib.hid (And.intro hU (And.intro hF hsz))
  clear hU hF hsz
  have u0 := HU1.out.cell 0 (v := .slice la beds.length lc) rfl
  have u1 := HU1.out.cell 1 (v := .int .i64 g) rfl
  have u2 := HU1.out.cell 2 (v := .int .i64 darts) rfl
  have ul := HU1.out.lt
  have HCK := Lib.hid (out_Check beds g darts la lc w1 (HC.out.ext HX1.out) (by have := HV.out.1; omega) (fun x hx => (HV.out.2 x hx).1))
  rw [rulE_ok HR.out] at HCK
  go_wp2_with fail
  refine HCK.out.mono ?_
  rintro e w2 ⟨rfl, hx2⟩
  have HX2 := Lib.hid (HX1.out.trans hx2)
  have HU2 := Lib.hid (HU1.out.ext hx2)
  have HF2 := Lib.hid (HF1.out.ext hx2)
  have HS2 := Lib.hid hx2.size
  clear hx2 u0 u1 u2 ul HCK HF1
  go_wp2_with fail
  refine (out_within_1 _ _ _ _ _ (by simp)).mono ?_
  rintro e w3 ⟨rfl, hx3⟩
  have hin : ins 1 1001 [(s : Int)] = true := insO_one.2 (by omega)
  rw [hin]
  have HX3 := Lib.hid (HX2.out.trans hx3)
  have HU3 := Lib.hid (HU2.out.ext hx3)
  have HF3 := Lib.hid (HF2.out.ext hx3)
  have HS3 := Lib.hid (Nat.le_trans HS2.out hx3.size)
  clear hx3 hin HX1 HU1 HX2 HU2 HF2
  go_upto_region 5 with fail
  have HFL : Hid (F < w3.heap.size ∧ w.heap.size ≤ F) := Lib.hid (by have h1 := HUF.out; have h2 := HS3.out; omega)
  have KY : ∀ y : Lat (fun b _ => b = F) w3, Chg (· = F) w3 y.world := fun y => y.chg.mono (by rintro q - ⟨_, e⟩; exact e)
  have hUF : ¬ U = F := by have h1 := HUF.out; omega
  have m0 : ∀ y : Lat (fun b _ => b = F) w3, y.world.cell? ⟨U, 0, none⟩ = some (.slice la beds.length lc) := fun y => (HU3.out.chg (KY y) hUF).cell 0 rfl
  have m1 : ∀ y : Lat (fun b _ => b = F) w3, y.world.cell? ⟨U, 1, none⟩ = some (.int .i64 g) := fun y => (HU3.out.chg (KY y) hUF).cell 1 rfl
  have m2 : ∀ y : Lat (fun b _ => b = F) w3, y.world.cell? ⟨U, 2, none⟩ = some (.int .i64 darts) := fun y => (HU3.out.chg (KY y) hUF).cell 2 rfl
  have ml := HU3.out.lt
  have KYH := Lib.hid KY
  clear KY
  refine wp_region_lat (by kernel_rfl) (fun b _ => b = F) (fun k => (k == 7) || (k == 11)) RFi (GFi w3.heap.size F beds la lc g darts s) (by kernel_rfl)
    (fun k hk => by
      simp only [Bool.or_eq_true, beq_iff_eq] at hk
      rcases hk with rfl | rfl <;> decide)
    (fun L L' u w' h hg => hg.congr (h 7 rfl) (h 11 rfl) rfl) (fun L u a b h hx => h.ext hx) (fun _ => .pointer (some ⟨0, 0, none⟩)) (fun k _ _ => ⟨0, rfl⟩) ⟨fun h => absurd h (by decide), HF3.out.ext (Ext.refl w3).drew⟩ ?_
  intro T hT hne2 u hu
  obtain ⟨kb, e_7⟩ := hu 7 rfl rfl
  refine lx_next 7 (by rfl) (by decide) ?_
  dsimp only [List.take, List.drop]
  repeat (go_big_quiet_step (fail))
  refine wpQuiet_nil ?_
  refine lx_loud (by rfl) (by kernel_rfl) ?_ (fun K hK => ?_)
  · intro L w4 hL hd hcl hC hs
    obtain ⟨y, rfl⟩ := hC
    have HNB := Lib.hid (out_newBoard beds la lc g darts s y.world (by
      intro i hi
      obtain ⟨b, o, e, h1⟩ := HC.out i hi
      refine ⟨b, o, e, y.chg.cell (HX3.out.cell h1) ?_⟩
      rintro ⟨_, e'⟩
      have h2 := lt_of_cell h1
      have h3 := HUF.out
      have h4 : b = F := e'
      simp only at h2
      omega) HV.out.1 HV.out.2 (by omega) (by omega))
    have HYS := Lib.hid y.size
    have D11 := Lib.hid (hcl.off hL 40 11 (by kernel_rfl))
    have HS := Lib.hid hs
    clear hs hd hcl hL
    go_wp2_with fail
    refine HNB.out.mono ?_
    rintro e w6 ⟨kb', ba, bc, cv, rfl, hk, hb, ho, hr, hx⟩
    have HN := Lib.hid (And.intro hk (And.intro hb (And.intro ho hr)))
    have HXX := Lib.hid hx
    clear hk hb ho hr hx
    go_wp2
    have h := HS.out.ext HXX.out
    exact ⟨fun _ => ⟨_, rfl⟩, ⟨y.ext HXX.out, rfl⟩, ⟨fun _ => ⟨kb', ba, bc, cv, rfl, Nat.le_trans HYS.out HN.out.1, HN.out.2.1, own_mono HN.out.2.2.1 HYS.out, HN.out.2.2.2.mono HYS.out⟩, by show FinT _ _ _; rw [show upd L 7 11 = L 11 from rfl, D11.out]; have h2 := h.fin; rw [D11.out] at h2; exact h2⟩⟩
  rw [e_7]
  go_simp
  with_reducible refine hK _ ?_
  clear hK K
  refine lx_next 3 (by rfl) (by decide) ?_
  dsimp only [List.take, List.drop]
  repeat (go_big_quiet_step (fail))
  refine wpQuiet_nil ?_
  refine lx_loud (by rfl) (by kernel_rfl) ?_ (fun K hK => ?_)
  · intro L w4 hL hd hcl hC hs
    obtain ⟨y, rfl⟩ := hC
    have hf := hs.fin
    rw [hL] at hf
    have hf : FinT y.world F #[.pointer none, .slice none 0 0, .int .i64 0, .int .i64 0, .int .i64 0] := hf
    obtain ⟨kb', ba, bc, cv, e, h1, h2, h3, h4⟩ := hs.brd (hd 7 (by kernel_rfl))
    obtain rfl : kb = kb' := by rw [e_7] at e; cases e; rfl
    have r0 := hf.blk.cell 0 (v := .pointer none) rfl
    have r1 := hf.blk.cell 1 (v := .slice none 0 0) rfl
    have r2 := hf.blk.cell 2 (v := .int .i64 0) rfl
    have r3 := hf.blk.cell 3 (v := .int .i64 0) rfl
    have r4 := hf.blk.cell 4 (v := .int .i64 0) rfl
    have f0 := hf.blk.frozen 0
    have f1 := hf.blk.frozen 1
    have f2 := hf.blk.frozen 2
    have f3 := hf.blk.frozen 3
    have f4 := hf.blk.frozen 4
    have rl := hf.blk.lt
    have HF := Lib.hid hf
    have HBR := Lib.hid (And.intro h1 (And.intro h2 (And.intro h3 h4)))
    clear hs hd hcl hL hf h1 h2 h3 h4 e
    go_wp2
    have hC := five_chgF (· = F) y.world (b := F) rfl (.pointer (some ⟨kb, 0, none⟩)) (.slice la beds.length lc) (.int .i64 g) (.int .i64 darts) (.int .i64 s)
    refine ⟨fun h => absurd h (by decide), ⟨y.chgd hC (fun b hb => .inr fun _ => hb), rfl⟩, ⟨fun _ => ⟨kb, ba, bc, cv, e_7, HBR.out.1, HBR.out.2.1.chg hC (fun e => by have h1 := HBR.out.1; have h2 := HFL.out; omega), own_chg HBR.out.2.2.1 hC (fun q hq e => by have h1 := (World.ownsRow.lt HBR.out.2.2.1 q hq).1; have h2 := HFL.out; have h3 : q = F := e; omega), RowsO.off HBR.out.2.2.2 HF.out (by decide) (by decide) hC⟩, by show FinT _ _ (bif upd L 11 11 then finC (u 7) la beds.length lc g darts s else _); rw [show upd L 11 11 = true from rfl, e_7]; exact HF.out.set5 _ _ _ _ _⟩⟩
  go_simp
  with_reducible refine hK _ ?_
  clear hK K
  refine lx_next 1 (by rfl) (by decide) ?_
  dsimp only [List.take, List.drop]
  repeat (go_big_quiet_step (fail))
  refine wpQuiet_nil ?_
  refine lx_nil ?_
  intro y hs
  obtain ⟨kb', ba, bc, cv, e, h1, h2, h3, h4⟩ := hs.brd rfl
  obtain rfl : kb = kb' := by rw [e_7] at e; cases e; rfl
  have hf := hs.fin
  rw [e_7] at hf
  have hf : FinT y.world F #[.pointer (some ⟨kb, 0, none⟩), .slice la beds.length lc, .int .i64 g, .int .i64 darts, .int .i64 s] := hf
  have HF := Lib.hid hf
  have HBR := Lib.hid (And.intro h1 (And.intro h2 (And.intro h3 h4)))
  have HXN : Hid (Ext w y.world) := Lib.hid (Chg.to_ext HX3.out y.chg (by rintro q ⟨_, e⟩; rw [show q = F from e]; exact HFL.out.2))
  clear hs hu hT hne2 h1 h2 h3 h4 e e_7 hf
  generalize y.world = w9 at *
  clear y
  clear m0 m1 m2 ml
  go_wp2
  have y0 := HF.out.blk.cell 0 (v := .pointer (some ⟨kb, 0, none⟩)) rfl
  have y1 := HF.out.blk.cell 1 (v := .slice la beds.length lc) rfl
  have y2 := HF.out.blk.cell 2 (v := .int .i64 g) rfl
  have y3 := HF.out.blk.cell 3 (v := .int .i64 darts) rfl
  have y4 := HF.out.blk.cell 4 (v := .int .i64 s) rfl
  have yl := HF.out.blk.lt
  refine bodyPost_ret (v := .tuple #[.agg #[.pointer (some ⟨kb, 0, none⟩), .slice la beds.length lc, .int .i64 g, .int .i64 darts, .int .i64 s], .int .i64 0]) (by simp [results, Try.results44, go_sem, y0, y1, y2, y3, y4]) rfl ⟨kb, rfl, ⟨ba, bc, cv, Nat.le_trans HX3.out.size HBR.out.1, HBR.out.2.1, own_mono HBR.out.2.2.1 HX3.out.size, HBR.out.2.2.2.mono HX3.out.size⟩, HXN.out⟩
end Go.Proofs.Ytpifdeglhalefaa
