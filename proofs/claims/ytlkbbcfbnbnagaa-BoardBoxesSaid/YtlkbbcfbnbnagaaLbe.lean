/-
  The statements of chapter 1: the board that bytes make.
-/
import Derived.Test.YtlkbbcfbnbnagaaLbd
import Derived.Test.YtlkbbcfbnbnagaaGeo
import Derived.Deep.CutBlock
namespace Go.Proofs.Ytlkbbcfbnbnagaa
open Go.RowKit Go.BigFrame
attribute [local go_sem] Later.cell Later.frozen Lat.cell Lat.frozen
def BoaV (b : Brd) (v : Value) (s : Nat) (w : World) : Prop := ∃ v' : BrdV, v = .agg (v'.cells b) ∧ BrdAt w v' b ∧ BrdNil v' b ∧ Fre v' s
theorem BoaV.chg {b : Brd} {v : Value} {s : Nat} {w w' : World} {S : Nat → Prop} (h : BoaV b v s w) (hx : Chg S w w') (hs : ∀ k, S k → k < s) : BoaV b v s w' := by
  obtain ⟨v', e, hb, hn, hf⟩ := h
  refine ⟨v', e, ⟨fun i hi => ?_, fun i hi => ?_, fun i hi => ?_⟩, hn, hf⟩
  · obtain ⟨k, o, e, h0, h1⟩ := hb.rings i hi
    have hk : ¬ S k := fun h => by have := hs k h; have := hf k o (.inl e); omega
    exact ⟨k, o, e, hx.cell h0 hk, hx.cell h1 hk⟩
  · obtain ⟨k, o, e, h0, h1⟩ := hb.lines i hi
    have hk : ¬ S k := fun h => by have := hs k h; have := hf k o (.inr (.inl e)); omega
    exact ⟨k, o, e, hx.cell h0 hk, hx.cell h1 hk⟩
  · obtain ⟨k, o, e, h0⟩ := hb.nums i hi
    have hk : ¬ S k := fun h => by have := hs k h; have := hf k o (.inr (.inr e)); omega
    exact ⟨k, o, e, hx.cell h0 hk⟩
structure Mad where
  rings : List Int
  lines : List Int
  first : Int
  wire : Int
def compassL : List Pt := [⟨0, 9⟩, ⟨2, 9⟩, ⟨4, 8⟩, ⟨6, 6⟩, ⟨8, 4⟩, ⟨9, 2⟩, ⟨9, 0⟩, ⟨9, -2⟩, ⟨8, -4⟩, ⟨6, -6⟩, ⟨4, -8⟩, ⟨2, -9⟩, ⟨0, -9⟩, ⟨-2, -9⟩, ⟨-4, -8⟩, ⟨-6, -6⟩, ⟨-8, -4⟩, ⟨-9, -2⟩, ⟨-9, 0⟩, ⟨-9, 2⟩, ⟨-8, 4⟩, ⟨-6, 6⟩, ⟨-4, 8⟩, ⟨-2, 9⟩]
set_option maxRecDepth 100000 in
set_option maxHeartbeats 4000000 in
theorem law_compass (w : World) : Calls Try.prog 51 #[] w fun e w' => e = .returned (.slice (some ⟨w.heap.size, 0, none⟩) 24 24) ∧ PtsAt w' (some ⟨w.heap.size, 0, none⟩) compassL ∧ Ext w w' := by
  go_enter Try.func51, Try.ntmps51
  go_wp2
  go_ret
  have hb := Blk.new w #[.int .i64 0, .int .i64 9, .int .i64 2, .int .i64 9, .int .i64 4, .int .i64 8, .int .i64 6, .int .i64 6, .int .i64 8, .int .i64 4, .int .i64 9, .int .i64 2, .int .i64 9, .int .i64 0, .int .i64 9, .int .i64 (-2), .int .i64 8, .int .i64 (-4), .int .i64 6, .int .i64 (-6), .int .i64 4, .int .i64 (-8), .int .i64 2, .int .i64 (-9), .int .i64 0, .int .i64 (-9), .int .i64 (-2), .int .i64 (-9), .int .i64 (-4), .int .i64 (-8), .int .i64 (-6), .int .i64 (-6), .int .i64 (-8), .int .i64 (-4), .int .i64 (-9), .int .i64 (-2), .int .i64 (-9), .int .i64 0, .int .i64 (-9), .int .i64 2, .int .i64 (-8), .int .i64 4, .int .i64 (-6), .int .i64 6, .int .i64 (-4), .int .i64 8, .int .i64 (-2), .int .i64 9] 53
  refine ⟨rfl, fun i hi => ⟨w.heap.size, 0, rfl, ?_⟩, (Ext.refl w).alloc _⟩
  have hi' : i < 24 := hi
  rcases (by omega : i = 0 ∨ i = 1 ∨ i = 2 ∨ i = 3 ∨ i = 4 ∨ i = 5 ∨ i = 6 ∨ i = 7 ∨ i = 8 ∨ i = 9 ∨ i = 10 ∨ i = 11 ∨ i = 12 ∨ i = 13 ∨ i = 14 ∨ i = 15 ∨ i = 16 ∨ i = 17 ∨ i = 18 ∨ i = 19 ∨ i = 20 ∨ i = 21 ∨ i = 22 ∨ i = 23) with rfl | rfl | rfl | rfl | rfl | rfl | rfl | rfl | rfl | rfl | rfl | rfl | rfl | rfl | rfl | rfl | rfl | rfl | rfl | rfl | rfl | rfl | rfl | rfl <;> exact ⟨hb.cell _ rfl, hb.cell _ rfl⟩
def Mad.cells (x : Mad) (ra la : Option Addr) (rc lc : Nat) : Array Value := #[.slice ra x.rings.length rc, .slice la x.lines.length lc, .int .u8 x.first, .int .u8 x.wire]
def byAt (l : List Int) (i : Nat) : Int := l.getD i 0
def gapM (x : Mad) (i : Nat) : Int := 2 * (x.wire % 4) + 1 + byAt x.rings i
def eyeM (x : Mad) : Int := x.wire % 4 + 5 + x.first % 40
def bullM (x : Mad) : Int := eyeM x + 2 * (x.wire % 4) + 1 + x.first
def lastM (x : Mad) : Nat → Int
  | 0 => bullM x
  | i + 1 => lastM x i + gapM x i
def ringM (x : Mad) (i : Nat) : Rg := ⟨lastM x (i + 1), byAt x.rings i % 5⟩
def rgsM (x : Mad) (k : Nat) : List Rg := (List.range k).map (ringM x)
def rnM (x : Mad) : Nat := if x.rings.length = 0 then 1 else min x.rings.length 5
def stepM (x : Mad) (i : Nat) : Nat := if i < x.lines.length then 1 + ((byAt x.lines i) % 8).toNat else 8
def posM (x : Mad) : Nat → Nat
  | 0 => 0
  | i + 1 => posM x i + stepM x i
def ptM (x : Mad) (i : Nat) : Pt := ptAt compassL ((x.first.toNat % 24 + posM x i) % 24)
def numM (x : Mad) (i : Nat) : Int := 1 + (7 * (i : Int) + x.first) % 20
def lnTo (x : Mad) : Nat → Nat → Nat
  | 0, i => i
  | f + 1, i => if posM x i < 24 then lnTo x f (i + 1) else i
def lnM (x : Mad) : Nat := lnTo x 20 0
def linesM (x : Mad) (k : Nat) : List Pt := (List.range k).map (ptM x)
def numsM (x : Mad) (k : Nat) : List Int := (List.range k).map (numM x)
def madeB (x : Mad) : Brd := ⟨eyeM x, bullM x, rgsM x (rnM x), linesM x (lnM x), numsM x (lnM x), x.wire % 4⟩
structure Mad.fits (x : Mad) : Prop where
  r : ∀ y ∈ x.rings, 0 ≤ y ∧ y ≤ 255
  l : ∀ y ∈ x.lines, 0 ≤ y ∧ y ≤ 255
  f : 0 ≤ x.first ∧ x.first ≤ 255
  w : 0 ≤ x.wire ∧ x.wire ≤ 255
theorem byAt_small {l : List Int} (h : ∀ y ∈ l, 0 ≤ y ∧ y ≤ 255) (i : Nat) : 0 ≤ byAt l i ∧ byAt l i ≤ 255 := by
  unfold byAt
  rw [List.getD_eq_getElem?_getD]
  cases hq : l[i]? with
  | none => simp
  | some y => simpa using h y (List.mem_of_getElem? hq)
theorem lastM_small {x : Mad} (hf : x.fits) : ∀ k, 0 ≤ lastM x k ∧ lastM x k ≤ 600 + 300 * k
  | 0 => by have := hf.f; have := hf.w; unfold lastM bullM eyeM; omega
  | k + 1 => by
    have h1 := lastM_small hf k
    have h2 := byAt_small hf.r k
    have := hf.w
    unfold lastM gapM
    omega
theorem rgsM_succ (x : Mad) (k : Nat) : (rgsM x (k + 1)).flatMap Rg.cells = (rgsM x k).flatMap Rg.cells ++ [.int .i64 (lastM x k + (2 * (x.wire % 4) + 1 + byAt x.rings k)), .int .i64 (byAt x.rings k % 5)] := by
  unfold rgsM
  rw [List.range_succ, List.map_append, List.flatMap_append]
  rfl
theorem rgsM_len (x : Mad) (k : Nat) : (rgsM x k).length = k := by unfold rgsM; simp
theorem Frm.pushD {lo : Nat} {rs : List Res} {w : World} (h : Frm lo rs w) {r : Res} (ha : r.A w) (hl : ∀ k, r.fp k → lo ≤ k ∧ k < w.heap.size) (hd : ∀ (i : Nat) (s : Res), rs[i]? = some s → ∀ k, r.fp k → ¬ s.fp k) : Frm lo (rs ++ [r]) w := by
  have key : ∀ (i : Nat) (s : Res), (rs ++ [r])[i]? = some s → (i < rs.length ∧ rs[i]? = some s) ∨ (i = rs.length ∧ s = r) := by
    intro i s hs
    rcases Nat.lt_or_ge i rs.length with hi | hi
    · rw [List.getElem?_append_left hi] at hs; exact .inl ⟨hi, hs⟩
    · rw [List.getElem?_append_right hi] at hs
      have h0 : i - rs.length < [r].length := (List.getElem?_eq_some_iff.1 hs).1
      simp at h0
      have e : i = rs.length := by omega
      subst e
      simp at hs
      exact .inr ⟨rfl, hs.symm⟩
  refine ⟨fun i s hs => ?_, fun i j s t hi hj hij k hk hk' => ?_⟩
  · rcases key i s hs with ⟨-, hs⟩ | ⟨-, rfl⟩
    · exact h.each i s hs
    · exact ⟨ha, hl⟩
  · rcases key i s hi with ⟨-, hs⟩ | ⟨h1, rfl⟩
    · rcases key j t hj with ⟨-, ht⟩ | ⟨-, rfl⟩
      · exact h.parts i j s t hs ht hij k hk hk'
      · exact hd i s hs k hk' hk
    · rcases key j t hj with ⟨-, ht⟩ | ⟨h2, rfl⟩
      · exact hd j t ht k hk hk'
      · exact absurd (h1.trans h2.symm) hij
theorem Frm.push {lo : Nat} {rs : List Res} {w : World} (h : Frm lo rs w) {r : Res} (ha : r.A w) (hf : ∀ k, ¬ r.fp k) : Frm lo (rs ++ [r]) w := h.pushD ha (fun k hk => absurd hk (hf k)) (fun _ _ _ k hk => absurd hk (hf k))
/-- A block as it is. -/
def Res.at (b : Nat) (o : Obj) : Res := ⟨fun k => k = b, fun w => w.heap[b]? = some o, fun _ _ h hw => (h b rfl).trans hw⟩
def CmpG (base : Nat) (t : Bool) (v : Value) (w : World) : Prop := t = true → ∃ kb, v = .slice (some ⟨kb, 0, none⟩) 24 24 ∧ base ≤ kb ∧ PtsAt w (some ⟨kb, 0, none⟩) compassL
theorem CmpG.ext {base : Nat} {t : Bool} {v : Value} {w w' : World} (h : CmpG base t v w) (hx : Ext w w') : CmpG base t v w' := fun ht => let ⟨kb, e, hb, hp⟩ := h ht; ⟨kb, e, hb, hp.ext hx⟩
def codeFrom (n : Nat) : Code → Option Code
  | .block _ c => codeFrom n c
  | .seq (.region m l d) b => if m = n then some (.seq (.region m l d) b) else codeFrom n b
  | .seq a b => match codeFrom n a with
    | some c => some c
    | none => codeFrom n b
  | .cond _ a b => match codeFrom n a with
    | some c => some c
    | none => codeFrom n b
  | .loop c => codeFrom n c
  | _ => none
theorem linesM_succ (x : Mad) (k : Nat) : (linesM x (k + 1)).flatMap Pt.cells = (linesM x k).flatMap Pt.cells ++ [.int .i64 (ptM x k).x, .int .i64 (ptM x k).y] := by
  unfold linesM
  rw [List.range_succ, List.map_append, List.flatMap_append]
  rfl
theorem linesM_len (x : Mad) (k : Nat) : (linesM x k).length = k := by unfold linesM; simp
theorem numsM_succ (x : Mad) (k : Nat) : (numsM x (k + 1)).map (Value.int .i64) = (numsM x k).map (Value.int .i64) ++ [.int .i64 (numM x k)] := by
  unfold numsM
  rw [List.range_succ, List.map_append, List.map_append]
  rfl
theorem numsM_len (x : Mad) (k : Nat) : (numsM x k).length = k := by unfold numsM; simp
theorem posM_le (x : Mad) : ∀ k, posM x k ≤ 8 * k
  | 0 => Nat.le_refl _
  | k + 1 => by
    have := posM_le x k
    have hs : stepM x k ≤ 8 := by unfold stepM; split <;> omega
    unfold posM; omega
theorem lnTo_step (x : Mad) (f i : Nat) (h : posM x i < 24) : lnTo x (f + 1) i = lnTo x f (i + 1) := by show (if posM x i < 24 then _ else _) = _; rw [if_pos h]
theorem lnTo_stop (x : Mad) (f i : Nat) (h : ¬ posM x i < 24) : lnTo x f i = i := by
  cases f with
  | zero => rfl
  | succ f => show (if posM x i < 24 then _ else _) = _; rw [if_neg h]
set_option maxRecDepth 100000 in
set_option maxHeartbeats 8000000 in
theorem made_tail (c : Code) (hc : codeFrom 13 (Try.f18.body.getD .skip) = some c) (x : Mad) (hf : x.fits) (ra la : Option Addr) (rc lc rn : Nat) (wi eye bull : Int) (v : Value) (w w0 wc : World) (HX0 : Hid (Ext w w0)) (HL : Hid (CellsAt w .u8 la x.lines)) (_hll : x.lines.length ≤ 9223372036854775807)
    (HBX : Hid (Blk w0 w.heap.size #[.slice ra x.rings.length rc, .slice la x.lines.length lc, .int .u8 x.first, .int .u8 x.wire])) (HBZ : Hid (Blk w0 (w.heap.size + 1) #[.int .i64 0, .int .i64 0, .slice none 0 0, .slice none 0 0, .slice none 0 0, .int .i64 0]))
    (HF : Hid (Frm (w.heap.size + 2) [Res.blk (w.heap.size + 2) #[.int .i64 eye, .int .i64 bull, v, .slice none 0 0, .slice none 0 0, .int .i64 wi], Res.own (w.heap.size + 2) 88 2 v rn ((rgsM x rn).flatMap Rg.cells)] wc)) (HX : Hid (Chg (fun j => w.heap.size + 2 ≤ j) w0 wc)) {s0 s4 s5 s6 s7 s8 s9 s10 s11 s12 s13 s14 s15 s16 s17 s18 s19 s20 s21 s22 s23 s24 s25 s26 s27 s28 s29 s30 s31 s32 s33 s34 s35 s36 s37 s38 s39 s40 s41 s42 s43 s44 s45 s46 s47 s48 s49 s50 s51 s52 s53 s54 s55 s56 s57 s58 s59 s60 s61 s62 s63 s64 s65 s66 s67 s68 s69 s70 s71 s72 s73 s74 s75 s76 s77 s78 s79 s80 s81 s82 s83 s84 s85 s86 s87 s88 s89 s90 s91 s92 s93 s94 s95 s96 s97 s98 s99 s100 s101 s102 s103 s104 s105 s106 s107 s108 s109 s110 s111 s112 s113 s114 s115 s116 s117 s118 s119 s120 s121 s122 s123 s124 s125 s126 s127 s128 s129 s130 s131 s132 s133 s134 s135 s136 s137 s138 s139 : Value} :
    c.wp Try.prog (bodyPost Try.prog Try.f18 fun e w' => ∃ v', e = .returned (.agg (v'.cells ⟨eye, bull, rgsM x rn, linesM x (lnM x), numsM x (lnM x), wi⟩)) ∧ BrdAt w' v' ⟨eye, bull, rgsM x rn, linesM x (lnM x), numsM x (lnM x), wi⟩ ∧ BrdNil v' ⟨eye, bull, rgsM x rn, linesM x (lnM x), numsM x (lnM x), wi⟩ ∧ Fre v' w.heap.size ∧ Ext w w')
      { tmps := #[s0, .pointer (some ⟨w.heap.size, 0, none⟩), .pointer (some ⟨w.heap.size + 1, 0, none⟩), .pointer (some ⟨w.heap.size + 1 + 1, 0, none⟩), s4, s5, s6, s7, s8, s9, s10, s11, s12, s13, s14, s15, s16, s17, s18, s19, s20, s21, s22, s23, s24, s25, s26, s27, s28, s29, s30, s31, s32, s33, s34, s35, s36, s37, s38, s39, s40, s41, s42, s43, s44, s45, s46, s47, s48, s49, s50, s51, s52, s53, s54, s55, s56, s57, s58, s59, s60, s61, s62, s63, s64, s65, s66, s67, s68, s69, s70, s71, s72, s73, s74, s75, s76, s77, s78, s79, s80, s81, s82, s83, s84, s85, s86, s87, s88, s89, s90, s91, s92, s93, s94, s95, s96, s97, s98, s99, s100, s101, s102, s103, s104, s105, s106, s107, s108, s109, s110, s111, s112, s113, s114, s115, s116, s117, s118, s119, s120, s121, s122, s123, s124, s125, s126, s127, s128, s129, s130, s131, s132, s133, s134, s135, s136, s137, s138, s139], defers := [] } wc := by
  simp only [Try.f18, Option.getD_some, codeFrom, ↓reduceIte, Nat.reduceEqDiff, Option.some.injEq] at hc
  subst hc
  obtain ⟨hf1, hf2⟩ := hf.f
  have HFT := Lib.hid hf
  obtain ⟨va, vc, rfl⟩ := own_shape (HF.out.get 1 rfl)
  have hbx := HBX.out.chg HX.out (by omega)
  have x2 := hbx.cell 2 (v := .int .u8 x.first) rfl
  have hxl := hbx.lt
  have HBXc := Lib.hid hbx
  clear hf hbx
  dsimp only
  go_upto_region 13 with fail
  refine wp_region_lat (by kernel_rfl) NoX (fun k => k == 0) (fun k u => k = 0 → ∃ kb, u = .slice (some ⟨kb, 0, none⟩) 24 24) (fun L u w' => CmpG wc.heap.size (L 0) (u 0) w')
    (by kernel_rfl) (fun k hk => by have : k = 0 := by simpa using hk
                                    subst this; decide) (fun L L' _ _ h hg => by rw [h 0 rfl]; exact hg) (fun L _ w' w'' hg hx => hg.ext hx) (fun _ => .slice (some ⟨0, 0, none⟩) 24 24) (fun _ _ _ => ⟨_, rfl⟩) (fun h => by cases h) ?_
  intro T hT hne u hu
  obtain ⟨kb, u0⟩ := hu 0 rfl rfl
  have y2 : ∀ y : Lat NoX wc, y.world.cell? ⟨w.heap.size, 2, none⟩ = some _ := fun y => (Lat.ext0 y).cell x2
  refine lx_loud (by rfl) (by kernel_rfl) ?_ (fun K hK => ?_)
  · intro L w3 hL hd hcl hC hs
    obtain ⟨y, rfl⟩ := hC
    go_wp2_with fail
    refine (law_compass _).mono ?_
    rintro e w4 ⟨rfl, hp, hx4⟩
    go_wp2
    exact ⟨⟨_, rfl⟩, ⟨y.ext hx4, rfl⟩, fun _ => ⟨_, rfl, (Lat.ext0 y).size, hp⟩⟩
  rw [u0]
  go_simp
  with_reducible refine hK _ ?_
  clear hK K
  refine lx_next 7 (by rfl) (by decide) ?_
  dsimp only [List.take, List.drop]
  repeat (go_big_quiet_step (fail))
  refine wpQuiet_nil ?_
  refine lx_nil ?_
  intro y hG
  have hxy := Lat.ext0 y
  obtain ⟨kb', e, hkb0, hcp⟩ := hG rfl
  rw [u0] at e
  cases e
  generalize y.world = w1 at *
  clear y2 hT hne u0 hG
  have hkb : kb < w1.heap.size := by obtain ⟨b', o', e, c0, -⟩ := hcp 0 (by decide); cases e; exact lt_of_cell c0
  obtain ⟨ob, hob⟩ : ∃ ob, w1.heap[kb]? = some ob := ⟨_, Array.getElem?_eq_getElem hkb⟩
  have hlo1 : w.heap.size + 2 ≤ wc.heap.size := by have := (HF.out.lt 0 rfl (w.heap.size + 2) rfl).2; omega
  have hF1 : Frm (w.heap.size + 2) [Res.blk (w.heap.size + 2) #[.int .i64 eye, .int .i64 bull, .slice va rn vc, (.slice none 0 0), (.slice none 0 0), .int .i64 wi], Res.own (w.heap.size + 2) 88 2 (.slice va rn vc) rn ((rgsM x rn).flatMap Rg.cells), Res.own (w.heap.size + 2) 53 2 (.slice none 0 0) 0 ((linesM x 0).flatMap Pt.cells), Res.own (w.heap.size + 2) 3 1 (.slice none 0 0) 0 ((numsM x 0).map (Value.int .i64)), Res.at kb ob, Res.none] w1 :=
    ((((HF.out.ext hxy).push (r := Res.own (w.heap.size + 2) 53 2 (.slice none 0 0) 0 []) (World.ownsRow_nil _ _ _ _) (fun k hk => by cases hk)).push (r := Res.own (w.heap.size + 2) 3 1 (.slice none 0 0) 0 []) (World.ownsRow_nil _ _ _ _) (fun k hk => by cases hk)).pushD (r := Res.at kb ob) hob (fun k hk => by have hk' : k = kb := hk; subst hk'; omega) (fun i s hs k hk hk2 => by
      have hk' : k = kb := hk
      subst hk'
      match i, hs with
      | 0, hs => cases hs; have := (HF.out.lt 0 rfl k hk2).2; omega
      | 1, hs => cases hs; have := (HF.out.lt 1 rfl k hk2).2; omega
      | 2, hs => cases hs; cases hk2
      | 3, hs => cases hs; cases hk2)).push (r := Res.none) trivial (fun k hk => hk)
  have HF1 := Lib.hid hF1
  have hx1 := HX.out.ext' hxy
  have HX1 := Lib.hid hx1
  have HCP := Lib.hid (fun (W : World) (h : W.heap[kb]? = some ob) (i : Nat) (hi : i < 24) => (show W.cell? ⟨kb, i * 2, none⟩ = some (.int .i64 (ptAt compassL i).x) ∧ W.cell? ⟨kb, i * 2 + 1, none⟩ = some (.int .i64 (ptAt compassL i).y) by
    obtain ⟨b', o', e, c0, c1⟩ := hcp i hi
    cases e
    have hp : ptAt compassL i = compassL[i]'hi := by unfold ptAt; rw [List.getD_eq_getElem?_getD, List.getElem?_eq_getElem hi]; rfl
    rw [hp]
    rw [Nat.zero_add] at c0 c1
    exact ⟨(World.cell?_of_block (h.trans hob.symm)).trans c0, (World.cell?_of_block (h.trans hob.symm)).trans c1⟩))
  clear hF1 hx1 hcp hxy x2 hxl hkb hob
  go_upto_block 2 with fail
  go_cut [8, 10, 11] from 88 to 138 (fun _ _ _ wx => ∃ vl vn, Frm (w.heap.size + 2) [Res.blk (w.heap.size + 2) #[.int .i64 eye, .int .i64 bull, .slice va rn vc, vl, vn, .int .i64 wi], Res.own (w.heap.size + 2) 88 2 (.slice va rn vc) rn ((rgsM x rn).flatMap Rg.cells), Res.own (w.heap.size + 2) 53 2 vl (lnM x) ((linesM x (lnM x)).flatMap Pt.cells), Res.own (w.heap.size + 2) 3 1 vn (lnM x) ((numsM x (lnM x)).map (Value.int .i64)), Res.at kb ob, Res.none] wx ∧ Chg (fun j => w.heap.size + 2 ≤ j) w0 wx)
  case first =>
    go_wp2
    go_loopw [8, 10] (fun at' i wr => ∃ n : Nat, (n < 20 ∧ lnTo x (20 - n) n = lnM x) ∧ at' = .int .i64 (posM x n) ∧ i = .int .i64 n ∧ ∃ vl vn, Frm (w.heap.size + 2) [Res.blk (w.heap.size + 2) #[.int .i64 eye, .int .i64 bull, .slice va rn vc, vl, vn, .int .i64 wi], Res.own (w.heap.size + 2) 88 2 (.slice va rn vc) rn ((rgsM x rn).flatMap Rg.cells), Res.own (w.heap.size + 2) 53 2 vl n ((linesM x n).flatMap Pt.cells), Res.own (w.heap.size + 2) 3 1 vn n ((numsM x n).map (Value.int .i64)), Res.at kb ob, Res.none] wr ∧ Chg (fun j => w.heap.size + 2 ≤ j) w0 wr) (fun _ i _ => 20 - (intOf i).toNat)
    case atStart => exact ⟨0, ⟨by decide, rfl⟩, rfl, rfl, _, _, HF1.out, HX1.out⟩
    case round =>
      obtain ⟨n, ⟨hn20, hln⟩, rfl, rfl, vl, vn, hFr, hxr⟩ := hrel
      have HFr := Lib.hid hFr
      have HXr := Lib.hid hxr
      have HLN := Lib.hid hln
      obtain ⟨vla, vlc, rfl⟩ := own_shape (hFr.get 2 rfl)
      obtain ⟨vna, vnc, rfl⟩ := own_shape (hFr.get 3 rfl)
      have HPS := Lib.hid (show posM x (n + 1) = posM x n + stepM x n from rfl)
      have HPM := Lib.hid (show ptM x n = ptAt compassL ((x.first.toNat % 24 + posM x n) % 24) from rfl)
      have HPO := Lib.hid (show ∀ f, posM x n < 24 → lnTo x (f + 1) n = lnTo x f (n + 1) from fun f h => lnTo_step x f n h)
      have HPX := Lib.hid (show ∀ f, ¬ posM x n < 24 → lnTo x f n = n from fun f h => lnTo_stop x f n h)
      clear hFr hxr hln
      generalize posM x n = px at *
      by_cases h24 : px < 24
      · obtain ⟨jj, hjj⟩ : ∃ jj : Nat, (x.first % 24 + (px : Int)) % 24 = (jj : Int) := ⟨((x.first % 24 + (px : Int)) % 24).toNat, by omega⟩
        have hjl : jj < 24 := by omega
        have hjm : (x.first.toNat % 24 + px) % 24 = jj := by omega
        rw [hjm] at HPM
        clear hjm
        obtain ⟨pX, hpX⟩ : ∃ c, (ptM x n).x = c := ⟨_, rfl⟩
        obtain ⟨pY, hpY⟩ : ∃ c, (ptM x n).y = c := ⟨_, rfl⟩
        have HCK := Lib.hid (fun (W : World) (h : W.heap[kb]? = some ob) => (show W.cell? ⟨kb, jj * 2, none⟩ = some (.int .i64 pX) ∧ W.cell? ⟨kb, jj * 2 + 1, none⟩ = some (.int .i64 pY) by rw [← hpX, ← hpY, HPM.out]; exact HCP.out W h jj hjl))
        have HLS := Lib.hid (show (linesM x (n + 1)).flatMap Pt.cells = (linesM x n).flatMap Pt.cells ++ [.int .i64 pX, .int .i64 pY] by rw [linesM_succ, hpX, hpY])
        clear hpX hpY
        have hlo : w.heap.size + 2 ≤ wr.heap.size := by have := (HFr.out.lt 0 rfl (w.heap.size + 2) rfl).2; omega
        go_upto_region 17 with fail
        refine wp_region_sep (by kernel_rfl) [.no, .val (.slice vla n vlc), .no, .no, .no, .no, .no, .no, .val (.agg #[.int .i64 pX, .int .i64 pY]), .box 1, .app (n + 1), .no, .any] (w.heap.size + 2)
          (fun L u => [Res.blk (w.heap.size + 2) #[.int .i64 eye, .int .i64 bull, .slice va rn vc, bif L 12 then u 10 else .slice vla n vlc, .slice vna n vnc, .int .i64 wi], Res.own (w.heap.size + 2) 88 2 (.slice va rn vc) rn ((rgsM x rn).flatMap Rg.cells),
            bif L 10 then Res.own (w.heap.size + 2) 53 2 (u 10) (n + 1) ((linesM x n).flatMap Pt.cells ++ [.int .i64 pX, .int .i64 pY]) else Res.own (w.heap.size + 2) 53 2 (.slice vla n vlc) n ((linesM x n).flatMap Pt.cells),
            Res.own (w.heap.size + 2) 3 1 (.slice vna n vnc) n ((numsM x n).map (Value.int .i64)), Res.at kb ob,
            bif L 9 then Res.own (w.heap.size + 2) 53 2 (u 9) 1 [.int .i64 pX, .int .i64 pY] else Res.none])
          (by kernel_rfl) (Nat.le_of_ble_eq_true rfl) (fun L L' u hh => by simp only [hh 12 rfl, hh 10 rfl, hh 9 rfl]) (fun _ => HFr.out) ?_
        intro T hT hne u hu
        have u1 : u 1 = .slice vla n vlc := hu 1 rfl
        have u8 : u 8 = .agg #[.int .i64 pX, .int .i64 pY] := hu 8 rfl
        obtain ⟨k9, u9⟩ : ∃ k, u 9 = .slice (some ⟨k, 0, none⟩) 1 1 := hu 9 rfl
        obtain ⟨a10, c10, u10⟩ : ∃ a c, u 10 = .slice a (n + 1) c := hu 10 rfl
        clear hu
        refine lx_next 1 (by rfl) (by decide) ?_
        dsimp only [List.take, List.drop]
        repeat (go_big_quiet_step (fail))
        refine wpQuiet_nil ?_
        refine lx_loud (by rfl) (by kernel_rfl) ?_ (fun K hK => ?_)
        · intro L w3 hL hd hcl hC hs
          obtain ⟨y, rfl⟩ := hC
          have hzs := y.size
          have h12 := hcl.off hL 40 12 (by kernel_rfl)
          simp only [h12, cond_false] at hs
          have hcc := (hs.get 0 rfl).cell 3 (v := .slice vla n vlc) rfl
          have hlt := (hs.get 0 rfl).lt
          go_wp2
          exact aft_same y rfl hs (by first | (simp [upd, updv, h12]; done) | (simp [upd, updv, h12, hL]; rfl))
        rw [u1]
        go_simp
        with_reducible refine hK _ ?_
        clear hK K
        refine lx_next 6 (by rfl) (by decide) ?_
        dsimp only [List.take, List.drop]
        repeat (go_big_quiet_step (fail))
        refine wpQuiet_nil ?_
        refine lx_loud (by rfl) (by kernel_rfl) ?_ (fun K hK => ?_)
        · intro L w3 hL hd hcl hC hs
          obtain ⟨y, rfl⟩ := hC
          have hzs := y.size
          obtain ⟨hc0, hc1⟩ := HCK.out y.world (hs.get 4 rfl)
          have hlt := lt_of_cell hc0
          simp only at hlt
          go_wp2
          exact aft_same y rfl hs (by first | (simp [upd, updv]; done) | (simp [upd, updv, hL]; rfl))
        rw [u8]
        go_simp
        with_reducible refine hK _ ?_
        clear hK K
        refine lx_loud (by rfl) (by kernel_rfl) ?_ (fun K hK => ?_)
        · intro L w3 hL hd hcl hC hs
          obtain ⟨y, rfl⟩ := hC
          have hzs := y.size
          have h10 := hcl.off hL 40 10 (by kernel_rfl)
          have h12 := hcl.off hL 40 12 (by kernel_rfl)
          simp only [hL, h10, h12, cond_false] at hs
          go_wp2
          exact aft_set y hlo ⟨_, rfl⟩ hs 5 (r' := Res.own (w.heap.size + 2) 53 2 (.slice (some ⟨y.world.heap.size, 0, none⟩) 1 1) 1 [.int .i64 pX, .int .i64 pY]) rfl (((Ext.refl y.world).alloc _).chg _) (own_box (by omega) (by decide) rfl) (fun k hk => .inr (by rw [← own_blk hk]; simp)) (by first | (simp [upd, updv, h10, h12, hL]; done) | (simp [upd, updv, h10, h12, hL]; rfl))
        rw [u9]
        go_simp
        with_reducible refine hK _ ?_
        clear hK K
        refine lx_loud (by rfl) (by kernel_rfl) ?_ (fun K hK => ?_)
        · intro L w3 hL hd hcl hC hs
          obtain ⟨y, rfl⟩ := hC
          have hzs := y.size
          have h12 := hcl.off hL 40 12 (by kernel_rfl)
          have h9 := hd 9 (by kernel_rfl)
          simp only [hL, h12, h9, cond_true, cond_false] at hs
          rw [u9] at hs
          refine wp_append_sep rfl _ _ 23 53 _ 2 16 rfl info_pt (by kernel_rfl) rfl (by decide) (w.heap.size + 2) _ _ _ rfl (hs.get 2 rfl) (w.heap.size + 2) k9 1 1 _ rfl (hs.get 5 rfl) (pt_one [⟨pX, pY⟩]) (by omega) (by decide) (by omega) ?_
          intro v' w4 ho4 hC4 hn4
          obtain ⟨av, ac, rfl⟩ := own_shape ho4
          go_wp2
          exact aft_set y hlo ⟨_, _, rfl⟩ hs 2 rfl hC4 (r' := Res.own (w.heap.size + 2) 53 2 (.slice av _ ac) _ _) ho4 hn4 (by first | (simp [upd, updv, h12, h9, hL, u9]; done) | (simp [upd, updv, h12, h9, hL, u9]; rfl))
        rw [u10]
        go_simp
        with_reducible refine hK _ ?_
        clear hK K
        refine lx_next 1 (by rfl) (by decide) ?_
        dsimp only [List.take, List.drop]
        repeat (go_big_quiet_step (fail))
        refine wpQuiet_nil ?_
        refine lx_loud (by rfl) (by kernel_rfl) ?_ (fun K hK => ?_)
        · intro L w3 hL hd hcl hC hs
          obtain ⟨y, rfl⟩ := hC
          have hzs := y.size
          have h10 := hd 10 (by kernel_rfl)
          simp only [hL, h10, cond_true, cond_false] at hs
          have f3 := (hs.get 0 rfl).frozen 3
          have hlt := (hs.get 0 rfl).lt
          have hcc := (hs.get 0 rfl).cell 3 rfl
          go_wp2
          exact aft_store y hlo trivial hs 0 rfl (by first | (simp [upd, updv, h10, hL, u10]; done) | (simp [upd, updv, h10, hL, u10]; rfl))
        go_simp
        with_reducible refine hK _ ?_
        clear hK K
        refine lx_nil ?_
        intro y hs
        have hXr := HXr.out.trans (y.chg.mono (fun k _ h => by obtain ⟨_, h⟩ := h; exact h))
        simp only [cond_true] at hs
        rw [u10] at hs
        have hs2 := hs.drop 5
        have hs3 : Frm (w.heap.size + 2) [Res.blk (w.heap.size + 2) #[.int .i64 eye, .int .i64 bull, .slice va rn vc, (.slice a10 (n + 1) c10), (.slice vna n vnc), .int .i64 wi], Res.own (w.heap.size + 2) 88 2 (.slice va rn vc) rn ((rgsM x rn).flatMap Rg.cells), Res.own (w.heap.size + 2) 53 2 (.slice a10 (n + 1) c10) (n + 1) ((linesM x (n + 1)).flatMap Pt.cells), Res.own (w.heap.size + 2) 3 1 (.slice vna n vnc) n ((numsM x n).map (Value.int .i64)), Res.at kb ob, Res.none] y.world := by rw [HLS.out]; exact hs2
        have HF3 := Lib.hid hs3
        have HX3 := Lib.hid hXr
        clear hs hs2 hs3 hXr hT hne u1 u8 u9 u10
        generalize y.world = w3 at *
        have hbx3 := HBX.out.chg HX3.out (by omega)
        have x0 := hbx3.cell 1 (v := .slice la x.lines.length lc) rfl
        have x2 := hbx3.cell 2 (v := .int .u8 x.first) rfl
        have hxl := hbx3.lt
        have hb3 := HF3.out.get 0 rfl
        have b4 := hb3.cell 4 (v := .slice vna n vnc) rfl
        have hbl := hb3.lt
        have hlo3 : w.heap.size + 2 ≤ w3.heap.size := by omega
        have HBX3 := Lib.hid hbx3
        clear hbx3 hb3 hlo
        go_wp2_with (at_builtin; refine wp_append_from rfl _ _ 24 3 _ 1 8 rfl info_int (by kernel_rfl) rfl (by decide) (w.heap.size + 2) _ n _ rfl (HF3.out.ext ((Ext.refl w3).alloc _) |>.get 3 rfl) (some ⟨w3.heap.size, 0, none⟩) 1 1 [.int .i64 (1 + (7 * (n : Int) + x.first) % 20)] rfl (fun h => by cases h) rfl (fun ad e j u hu => by cases e; rw [addr_add, Nat.zero_add]; exact (Blk.new w3 _ _).cell j (by simpa using hu)) (ints_one .i64 [(1 + (7 * (n : Int) + x.first) % 20)]) (by omega) (by decide) (by simp; omega) ?_)
        intro v' w4 ho4 hC4 hn4
        obtain ⟨av, ac, rfl⟩ := own_shape ho4
        have hF4 := (HF3.out.ext ((Ext.refl w3).alloc (.cells #[.int .i64 (1 + (7 * (n : Int) + x.first) % 20)] 3))).set 3 (r' := Res.own (w.heap.size + 2) 3 1 (.slice av (n + 1) ac) (n + 1) ((numsM x (n + 1)).map (Value.int .i64))) rfl hC4 (by rw [numsM_succ]; exact ho4) (fun j hj => by have h := hn4 j hj; rw [World.size_alloc]; exact h) (by simp; omega)
        have hX4 : Chg (fun j => w.heap.size + 2 ≤ j) w0 w4 := (HX3.out.alloc _).trans (hC4.mono fun i _ hi => ((HF3.out.ext ((Ext.refl w3).alloc (.cells #[.int .i64 (1 + (7 * (n : Int) + x.first) % 20)] 3))).lt 3 rfl i hi).1)
        have HX4 := Lib.hid hX4
        have HF4 := Lib.hid hF4
        have hbB4 := hF4.get 0 rfl
        have g2 := hbB4.frozen 4
        have g2' := hbB4.cell 4 (v := .slice vna n vnc) rfl
        have hgl := hbB4.lt
        have hF5 := hF4.set 0 (w' := w4.setCell ⟨w.heap.size + 2, 4, none⟩ (.slice av (n + 1) ac)) (r' := Res.blk (w.heap.size + 2) #[.int .i64 eye, .int .i64 bull, .slice va rn vc, .slice a10 (n + 1) c10, .slice av (n + 1) ac, .int .i64 wi]) rfl (Chg.setCell (S := fun j => j = w.heap.size + 2) (Chg.refl _ _) (.inr rfl) _) (show Blk _ _ _ by simpa using hbB4.set 4 (.slice av (n + 1) ac)) (fun j hj => .inl hj) (by omega)
        have hX5 := hX4.setCell (p := ⟨w.heap.size + 2, 4, none⟩) (.inr (Nat.le_refl _)) (.slice av (n + 1) ac)
        clear hF4 hX4 hbB4 ho4 hC4 hn4 b4 x0 x2 hxl hbl
        go_upto_region 19 with fail
        obtain ⟨w5, hw5⟩ : ∃ y, y = w4.setCell ⟨w.heap.size + 2, 4, none⟩ (.slice av (n + 1) ac) := ⟨_, rfl⟩
        rw [← hw5] at hF5 hX5
        have HF5 := Lib.hid hF5
        have HX5 := Lib.hid hX5
        have hbx5 := HBX.out.chg hX5 (by omega)
        have x0 := hbx5.cell 1 (v := .slice la x.lines.length lc) rfl
        have hxl := hbx5.lt
        have hb5 := hF5.get 0 rfl
        have b3 := hb5.cell 3 (v := .slice a10 (n + 1) c10) rfl
        have hbl := hb5.lt
        have HXW := Lib.hid (Chg.to_ext HX0.out hX5 (fun i hi => by omega))
        rw [show (⟨w.heap.size + 2, 4, none⟩ : Addr) = ⟨w.heap.size + 1 + 1, 4, none⟩ from rfl] at hw5
        try rw [← hw5]
        clear hw5 hF5 hX5 hbx5 hb5 g2 g2' hgl
        by_cases hnl : n < x.lines.length
        · obtain ⟨lb, lo', e, c0⟩ := HL.out n hnl
          subst e
          replace c0 := HXW.out.cell c0
          have hlbl := lt_of_cell c0
          simp only at hlbl
          have hy := HFT.out.l x.lines[n] (List.getElem_mem _)
          have hst : (stepM x n : Int) = 1 + x.lines[n] % 8 := by
            unfold stepM byAt
            rw [if_pos hnl, List.getD_eq_getElem?_getD, List.getElem?_eq_getElem hnl, Option.getD_some]
            omega
          have HST := Lib.hid hst
          generalize stepM x n = st at *
          generalize x.lines[n] = b at *
          clear hst
          by_cases h20 : n + 1 = 20
          · have hfin : lnM x = n + 1 := by
              have := HPO.out (19 - n) h24
              rw [show 19 - n + 1 = 20 - n by omega, HLN.out] at this
              rw [this, show 19 - n = 0 by omega]; rfl
            have HFIN := Lib.hid hfin
            have h20' : ((n : Int) + 1 == 20) = true := by simp; omega
            clear hfin
            go_wp2
            go_meet
            rw [HFIN.out]
            exact ⟨_, _, HF5.out, HX5.out⟩
          · have hnext : n + 1 < 20 ∧ lnTo x (20 - (n + 1)) (n + 1) = lnM x := by
              refine ⟨by omega, ?_⟩
              have := HPO.out (19 - n) h24
              rw [show 19 - n + 1 = 20 - n by omega, HLN.out] at this
              rw [this, show 20 - (n + 1) = 19 - n by omega]
            have HNX := Lib.hid hnext
            have h20' : ((n : Int) + 1 == 20) = false := by simp; omega
            clear hnext
            go_wp2
            go_roundw
            case rel => exact ⟨n + 1, HNX.out, by rw [HPS.out, Int.natCast_add, HST.out], by go_num, _, _, HF5.out, HX5.out⟩
            case measure => simp [intOf]; omega
        · have hst : stepM x n = 8 := by unfold stepM; rw [if_neg hnl]
          rw [hst] at HPS
          clear hst
          by_cases h20 : n + 1 = 20
          · have hfin : lnM x = n + 1 := by
              have := HPO.out (19 - n) h24
              rw [show 19 - n + 1 = 20 - n by omega, HLN.out] at this
              rw [this, show 19 - n = 0 by omega]; rfl
            have HFIN := Lib.hid hfin
            have h20' : ((n : Int) + 1 == 20) = true := by simp; omega
            clear hfin
            go_wp2
            go_meet
            rw [HFIN.out]
            exact ⟨_, _, HF5.out, HX5.out⟩
          · have hnext : n + 1 < 20 ∧ lnTo x (20 - (n + 1)) (n + 1) = lnM x := by
              refine ⟨by omega, ?_⟩
              have := HPO.out (19 - n) h24
              rw [show 19 - n + 1 = 20 - n by omega, HLN.out] at this
              rw [this, show 20 - (n + 1) = 19 - n by omega]
            have HNX := Lib.hid hnext
            have h20' : ((n : Int) + 1 == 20) = false := by simp; omega
            clear hnext
            go_wp2
            go_roundw
            case rel => exact ⟨n + 1, HNX.out, by rw [HPS.out]; go_num, by go_num, _, _, HF5.out, HX5.out⟩
            case measure => simp [intOf]; omega
      · have hfin : lnM x = n := by rw [← HLN.out]; exact HPX.out _ h24
        have HFIN := Lib.hid hfin
        clear hfin
        go_wp2
        go_meet
        rw [HFIN.out]
        exact ⟨_, _, HFr.out, HXr.out⟩
  case rest =>
    obtain ⟨vl, vn, hF, hx⟩ := hcut
    obtain ⟨vla, vlc, rfl⟩ := own_shape (hF.get 2 rfl)
    obtain ⟨vna, vnc, rfl⟩ := own_shape (hF.get 3 rfl)
    have HFe := Lib.hid hF
    have HXe := Lib.hid hx
    have hbb := hF.get 0 rfl
    have hzb := HBZ.out.chg hx (by omega)
    have HZe := Lib.hid hzb
    have m0 := hbb.cell 0 (v := .int .i64 eye) rfl
    have m1 := hbb.cell 1 (v := .int .i64 bull) rfl
    have m2 := hbb.cell 2 (v := .slice va rn vc) rfl
    have m3 := hbb.cell 3 (v := .slice vla (lnM x) vlc) rfl
    have m4 := hbb.cell 4 (v := .slice vna (lnM x) vnc) rfl
    have m5 := hbb.cell 5 (v := .int .i64 wi) rfl
    have hml := hbb.lt
    have f0 := hzb.frozen 0
    have f1 := hzb.frozen 1
    have f2 := hzb.frozen 2
    have f3 := hzb.frozen 3
    have f4 := hzb.frozen 4
    have f5 := hzb.frozen 5
    have s0 := hzb.cell 0 (v := .int .i64 0) rfl
    have s1 := hzb.cell 1 (v := .int .i64 0) rfl
    have s2 := hzb.cell 2 (v := .slice none 0 0) rfl
    have s3 := hzb.cell 3 (v := .slice none 0 0) rfl
    have s4 := hzb.cell 4 (v := .slice none 0 0) rfl
    have s5 := hzb.cell 5 (v := .int .i64 0) rfl
    have hzl := hzb.lt
    have hne1 : w.heap.size + 2 ≠ w.heap.size + 1 := by omega
    have HXW := Lib.hid (Chg.to_ext HX0.out hx (fun i hi => by omega))
    clear hF hx hbb hzb
    rename_i K0 a0
    refine a0 _ _ ?_
    go_wp2
    obtain ⟨W2, hW2, hB2, hX2⟩ := set6_pack HXW.out (n := w.heap.size + 1) (by omega) HZe.out (.int .i64 eye) (.int .i64 bull) (.slice va rn vc) (.slice vla (lnM x) vlc) (.slice vna (lnM x) vnc) (.int .i64 wi)
    rw [hW2]
    have hC2 : Chg (fun k => k = w.heap.size + 1) wc W2 := by
      rw [← hW2]
      exact ((((((Chg.refl (fun k => k = w.heap.size + 1) wc).setCell (p := ⟨w.heap.size + 1, 0, none⟩) (.inr (show w.heap.size + 1 = w.heap.size + 1 from rfl)) _).setCell (p := ⟨w.heap.size + 1, 1, none⟩) (.inr (show w.heap.size + 1 = w.heap.size + 1 from rfl)) _).setCell (p := ⟨w.heap.size + 1, 2, none⟩) (.inr (show w.heap.size + 1 = w.heap.size + 1 from rfl)) _).setCell (p := ⟨w.heap.size + 1, 3, none⟩) (.inr (show w.heap.size + 1 = w.heap.size + 1 from rfl)) _).setCell (p := ⟨w.heap.size + 1, 4, none⟩) (.inr (show w.heap.size + 1 = w.heap.size + 1 from rfl)) _).setCell (p := ⟨w.heap.size + 1, 5, none⟩) (.inr (show w.heap.size + 1 = w.heap.size + 1 from rfl)) _
    have d0 := hB2.cell 0 (v := .int .i64 eye) rfl
    have d1 := hB2.cell 1 (v := .int .i64 bull) rfl
    have d2 := hB2.cell 2 (v := .slice va rn vc) rfl
    have d3 := hB2.cell 3 (v := .slice vla (lnM x) vlc) rfl
    have d4 := hB2.cell 4 (v := .slice vna (lnM x) vnc) rfl
    have d5 := hB2.cell 5 (v := .int .i64 wi) rfl
    refine bodyPost_ret (v := .agg #[.int .i64 eye, .int .i64 bull, .slice va rn vc, .slice vla (lnM x) vlc, .slice vna (lnM x) vnc, .int .i64 wi]) (by simp [results, Try.results18, go_sem, d0, d1, d2, d3, d4, d5]) rfl ?_
    have e3 : OwnRg W2 (w.heap.size + 2) (.slice va rn vc) (rgsM x rn) := by unfold OwnRg; rw [rgsM_len]; exact own_chg (HFe.out.get 1 rfl) hC2 (fun k hk e => by have := (HFe.out.lt 1 rfl k hk).1; omega)
    have e7 : OwnPt W2 (w.heap.size + 2) (.slice vla (lnM x) vlc) (linesM x (lnM x)) := by unfold OwnPt; rw [linesM_len]; exact own_chg (HFe.out.get 2 rfl) hC2 (fun k hk e => by have := (HFe.out.lt 2 rfl k hk).1; omega)
    have e10 : OwnI W2 (w.heap.size + 2) (.slice vna (lnM x) vnc) (numsM x (lnM x)) := by unfold OwnI; rw [numsM_len]; exact own_chg (HFe.out.get 3 rfl) hC2 (fun k hk e => by have := (HFe.out.lt 3 rfl k hk).1; omega)
    obtain ⟨b3, g3, q3, t3, n3⟩ := e3.cells
    obtain ⟨b7, g7, q7, t7, n7⟩ := e7.cells
    obtain ⟨b10, g10, q10, t10, n10, n11⟩ := e10.cells'
    simp only [Value.slice.injEq] at q3 q7 q10
    obtain ⟨rfl, -, rfl⟩ := q3
    obtain ⟨rfl, -, rfl⟩ := q7
    obtain ⟨rfl, -, rfl⟩ := q10
    exact ⟨⟨va, vla, vna, vc, vlc, vnc⟩, by unfold BrdV.cells; simp only [rgsM_len, linesM_len, numsM_len], ⟨t3, t7, t10⟩, ⟨n3, n7, n10, n11⟩, fun k o h => by
      rcases h with h | h | h
      · have := (own_lt e3 k (by simp only at h; rw [h]; rfl)).1; omega
      · have := (own_lt e7 k (by simp only at h; rw [h]; rfl)).1; omega
      · have := (own_lt e10 k (by simp only at h; rw [h]; rfl)).1; omega, hX2⟩
end Go.Proofs.Ytlkbbcfbnbnagaa
