/-
  Package mean: Exact.
-/
import Derived.Test.YtmopadnkjlodnaaMtc
namespace Go.Proofs.Ytmopadnkjlodnaa
open Go.RowKit
attribute [local go_sem] Later.cell Later.frozen
set_option maxRecDepth 100000 in
theorem eqd_none (n' c' : Nat) (W : World) : (binOp .eql 25 (.slice none n' c') (.slice none 0 0)).run Try.prog W = .ok (.bool true) W := rfl
set_option maxRecDepth 100000 in
theorem eqd_some (ad : Addr) (n' c' : Nat) (W : World) : (binOp .eql 25 (.slice (some ad) n' c') (.slice none 0 0)).run Try.prog W = .ok (.bool false) W := rfl
set_option maxRecDepth 100000 in
set_option maxHeartbeats 1000000 in
theorem clone_d (xs : List Int) (a : Option Addr) (c : Nat) (w : World) (hx : CellsAt w .i64 a xs) (hnil : a = none → xs.length = 0 ∧ c = 0) (hl : xs.length ≤ 1000000) :
    Calls Try.prog 65 #[.slice a xs.length c] w fun e w' => ∃ v, e = .returned v ∧ OwnD w' w.heap.size v xs ∧ Ext w w' := by
  have HX := Lib.hid hx
  cases a with
  | none =>
    obtain ⟨h0, rfl⟩ := hnil rfl
    obtain rfl := List.length_eq_zero_iff.1 h0
    clear hnil hx HX hl
    simp only [List.length_nil]
    have he := eqd_none 0 0
    go_enter Try.func65, Try.ntmps65
    go_wp2
    go_ret
    exact ⟨_, rfl, OwnD.nil _ _, Ext.refl w⟩
  | some ad =>
    have hE : OwnD (w.alloc (.cells #[] 99)) w.heap.size (.slice (some ⟨w.heap.size, 0, none⟩) 0 0) [] := own_empty rfl (Nat.le_refl _)
    have HE := Lib.hid hE
    have HL := Lib.hid hl
    obtain ⟨m, hm⟩ : ∃ m, xs.length = m := ⟨_, rfl⟩
    have HM := Lib.hid hm
    rw [hm]
    clear hx hE hnil hl hm
    have he := eqd_some ad m c
    go_enter Try.func65, Try.ntmps65
    go_wp2_with (at_builtin; refine wp_append_vals rfl _ _ 25 99 (.int .i64 0) 1 8 rfl info_bed (by kernel_rfl) rfl (by decide) w.heap.size _ 0 [] rfl HE.out (some ad) m c (xs.map (Value.int .i64)) rfl (fun h => by cases h) (by simp [HM.out]) (CellsAt.vals (HX.out.ext ((Ext.refl w).alloc _))) (ints_one _ _) (by have := HL.out; have := HM.out; omega) (by omega) (by simp) ?_)
    intro v' w5 hO5 hg5
    have hE5 := Chg.to_ext ((Ext.refl w).alloc (.cells #[] 99)) (grown_chg hg5) (fun i e => (World.ownsRow.lt HE.out i e).1)
    have hO6 : OwnD w5 w.heap.size v' xs := by
      show w5.ownsRow _ _ _ _ xs.length (xs.map (Value.int .i64))
      rw [HM.out]; simpa using hO5
    have HO5 := Lib.hid hO6
    clear hO5 hg5 hO6
    go_wp2
    go_ret
    exact ⟨_, rfl, HO5.out, hE5⟩
section
variable (start gin gout : Int) (beds : List Int)
def exaG : List (List Int) → Nat → Exa → Exa ⊕ (Int × Int)
  | [], _, e => .inl e
  | vb :: l, i, e => if exaE start gin gout beds e vb = 0 then exaG l (i + 1) (exaS start gin gout beds e vb) else .inr (i, exaE start gin gout beds e vb)
def exa0 : Exa := ⟨{ tot0 with legs := 1 }, start, false, [], false⟩
/-- What a leg comes to that is told dart by dart, or the error and its visit. -/
def exaF (vs : List (List Int)) : Exa ⊕ (Int × Int) := if lawsB start gin gout beds = false then .inr (0, 2) else if 100 < vs.length then .inr (0, 5) else exaG start gin gout beds vs 0 (exa0 start)
end
theorem exaG_ok {start gin gout : Int} {beds : List Int} {vs : List (List Int)} {k : Nat} {e : Exa} (hk : k < vs.length) (h : exaE start gin gout beds e vs[k] = 0) : exaG start gin gout beds (vs.drop k) k e = exaG start gin gout beds (vs.drop (k + 1)) (k + 1) (exaS start gin gout beds e vs[k]) := by
  rw [List.drop_eq_getElem_cons hk]
  exact if_pos h
theorem exaG_bad {start gin gout : Int} {beds : List Int} {vs : List (List Int)} {k : Nat} {e : Exa} (hk : k < vs.length) (h : exaE start gin gout beds e vs[k] ≠ 0) : exaG start gin gout beds (vs.drop k) k e = .inr ((k : Int), exaE start gin gout beds e vs[k]) := by
  rw [List.drop_eq_getElem_cons hk]
  exact if_neg h
/-- Visits that lie in a row. -/
def VssAt (w : World) (va : Option Addr) (vs : List (List Int)) : Prop := ∀ i (h : i < vs.length), ∃ b o a c, va = some ⟨b, o, none⟩ ∧ w.cell? ⟨b, o + i, none⟩ = some (.slice a vs[i].length c) ∧ CellsAt w .i64 a vs[i] ∧ (vs[i].length ≤ c ∧ c ≤ maxLen) ∧ (∀ x ∈ vs[i], I64 x) ∧ vs[i].length ≤ 1000
theorem VssAt.ext {w w' : World} {va : Option Addr} {vs : List (List Int)} (h : VssAt w va vs) (hx : Ext w w') : VssAt w' va vs := fun i hi => let ⟨b, o, a, c, h1, h2, h3, h4⟩ := h i hi; ⟨b, o, a, c, h1, hx.cell h2, h3.ext hx, h4⟩
def leg0A : Array Value := #[.int .i64 0, .int .i64 0, .int .i64 0, .slice none 0 0, .slice none 0 0, .bool false]
/-- What Exact answers. -/
def ExaA (start gin gout : Int) (beds : List Int) (r : Exa ⊕ (Int × Int)) (base : Nat) (e : Ending) (W : World) : Prop := match r with
  | .inr (at_, er) => e = .returned (.tuple #[.agg tot0.cells, .agg leg0A, .int .i64 at_, .int .i64 er])
  | .inl x => ∃ la lc sa sc, e = .returned (.tuple #[.agg x.t.cells, .agg #[.int .i64 start, .int .i64 gin, .int .i64 gout, .slice la beds.length lc, .slice sa x.scores.length sc, .bool x.won], .int .i64 0, .int .i64 0]) ∧ OwnD W base (.slice la beds.length lc) beds ∧ OwnI W base (.slice sa x.scores.length sc) x.scores
end Go.Proofs.Ytmopadnkjlodnaa
namespace Go.Proofs.Ytmopadnkjlodnaa
open Go.RowKit Go.BigFrame
attribute [local go_sem] Oper.semAt_some Later.cell Later.frozen Lat.cell Lat.frozen NoX
/-- Both results are zero so far. -/
structure ZedG (b6 b7 : Nat) (W : World) : Prop where
  k6 : Blk W b6 #[.int .i64 0, .int .i64 0, .int .i64 0, .int .i64 0, .int .i64 0, .int .i64 0, .int .i64 0, .int .i64 0, .int .i64 0, .int .i64 0, .int .i64 0, .int .i64 0]
  k7 : Blk W b7 #[.int .i64 0, .int .i64 0, .int .i64 0, .slice none 0 0, .slice none 0 0, .bool false]
  ne : b6 ≠ b7
theorem ZedG.ext {b6 b7 : Nat} {W W' : World} (h : ZedG b6 b7 W) (hx : Ext W W') : ZedG b6 b7 W' := ⟨h.k6.ext hx, h.k7.ext hx, h.ne⟩
theorem ZedG.chg {S : Nat → Prop} {b6 b7 : Nat} {W W' : World} (h : ZedG b6 b7 W) (hx : Chg S W W') (h6 : ¬ S b6) (h7 : ¬ S b7) : ZedG b6 b7 W' := ⟨h.k6.chg hx h6, h.k7.chg hx h7, h.ne⟩
theorem ZedG.set6 {b6 b7 : Nat} {w : World} (h : ZedG b6 b7 w) : ZedG b6 b7 ((((((((((((w.setCell ⟨b6, 0, none⟩ (.int .i64 0)).setCell ⟨b6, 1, none⟩ (.int .i64 0)).setCell ⟨b6, 2, none⟩ (.int .i64 0)).setCell ⟨b6, 3, none⟩ (.int .i64 0)).setCell ⟨b6, 4, none⟩ (.int .i64 0)).setCell ⟨b6, 5, none⟩ (.int .i64 0)).setCell ⟨b6, 6, none⟩ (.int .i64 0)).setCell ⟨b6, 7, none⟩ (.int .i64 0)).setCell ⟨b6, 8, none⟩ (.int .i64 0)).setCell ⟨b6, 9, none⟩ (.int .i64 0)).setCell ⟨b6, 10, none⟩ (.int .i64 0)).setCell ⟨b6, 11, none⟩ (.int .i64 0)) := ⟨twl_set h.k6 (.int .i64 0) (.int .i64 0) (.int .i64 0) (.int .i64 0) (.int .i64 0) (.int .i64 0) (.int .i64 0) (.int .i64 0) (.int .i64 0) (.int .i64 0) (.int .i64 0) (.int .i64 0), h.k7.chg (twl_chg (· = b6) w (b := b6) rfl (.int .i64 0) (.int .i64 0) (.int .i64 0) (.int .i64 0) (.int .i64 0) (.int .i64 0) (.int .i64 0) (.int .i64 0) (.int .i64 0) (.int .i64 0) (.int .i64 0) (.int .i64 0)) (fun e => h.ne e.symm), h.ne⟩
theorem ZedG.set7 {b6 b7 : Nat} {w : World} (h : ZedG b6 b7 w) : ZedG b6 b7 ((((((w.setCell ⟨b7, 0, none⟩ (.int .i64 0)).setCell ⟨b7, 1, none⟩ (.int .i64 0)).setCell ⟨b7, 2, none⟩ (.int .i64 0)).setCell ⟨b7, 3, none⟩ (.slice none 0 0)).setCell ⟨b7, 4, none⟩ (.slice none 0 0)).setCell ⟨b7, 5, none⟩ (.bool false)) := ⟨h.k6.chg (six_chg (· = b7) w (b := b7) rfl (.int .i64 0) (.int .i64 0) (.int .i64 0) (.slice none 0 0) (.slice none 0 0) (.bool false)) h.ne, six_set h.k7 (.int .i64 0) (.int .i64 0) (.int .i64 0) (.slice none 0 0) (.slice none 0 0) (.bool false), h.ne⟩
/-- The results, each of them zero or what it is at last. -/
structure LstG (b6 b7 : Nat) (c6 c7 : Array Value) (l6 l7 : Bool) (W : World) : Prop where
  k6 : Blk W b6 (bif l6 then c6 else #[.int .i64 0, .int .i64 0, .int .i64 0, .int .i64 0, .int .i64 0, .int .i64 0, .int .i64 0, .int .i64 0, .int .i64 0, .int .i64 0, .int .i64 0, .int .i64 0])
  k7 : Blk W b7 (bif l7 then c7 else #[.int .i64 0, .int .i64 0, .int .i64 0, .slice none 0 0, .slice none 0 0, .bool false])
  ne : b6 ≠ b7
theorem LstG.of {b6 b7 : Nat} {c6 c7 : Array Value} {W : World} (h : ZedG b6 b7 W) : LstG b6 b7 c6 c7 false false W := ⟨h.k6, h.k7, h.ne⟩
theorem LstG.ext {b6 b7 : Nat} {c6 c7 : Array Value} {l6 l7 : Bool} {W W' : World} (h : LstG b6 b7 c6 c7 l6 l7 W) (hx : Ext W W') : LstG b6 b7 c6 c7 l6 l7 W' := ⟨h.k6.ext hx, h.k7.ext hx, h.ne⟩
/-- While the leg is laid out. -/
structure ExtG (start gin gout : Int) (beds : List Int) (ba : Option Addr) (bc base : Nat) (L : Nat → Bool) (u : Nat → Value) (W : World) : Prop where
  c8 : L 8 = true → OwnD W base (u 8) beds
  k11 : L 11 = true → ∃ k, u 11 = .pointer (some ⟨k, 0, none⟩) ∧ base ≤ k ∧ Blk W k #[.int .i64 start, .int .i64 gin, .int .i64 gout, .slice ba beds.length bc, .int .i64 0, .int .i64 0, .int .i64 0, .int .i64 0, .int .i64 0, .int .i64 0, .int .i64 0, .int .i64 0, .int .i64 0, .int .i64 0, .int .i64 0, .int .i64 0, .int .i64 start, .bool false, .int .i64 start, .int .i64 gin, .int .i64 gout, u 8, .slice none 0 0, .bool false] ∧ ∀ q, (u 8).ownBlock = some q → q ≠ k
theorem ExtG.ext {start gin gout : Int} {beds : List Int} {ba : Option Addr} {bc base : Nat} {L : Nat → Bool} {u : Nat → Value} {W W' : World} (h : ExtG start gin gout beds ba bc base L u W) (hx : Ext W W') : ExtG start gin gout beds ba bc base L u W' := ⟨fun e => (h.c8 e).ext hx, fun e => let ⟨k, h1, h2, h3, h4⟩ := h.k11 e; ⟨k, h1, h2, h3.ext hx, h4⟩⟩
theorem ExtG.congr {start gin gout : Int} {beds : List Int} {ba : Option Addr} {bc base : Nat} {L L' : Nat → Bool} {u u' : Nat → Value} {W : World} (h : ExtG start gin gout beds ba bc base L u W) (e8 : L' 8 = L 8) (e11 : L' 11 = L 11) (f8 : u' 8 = u 8) (f11 : u' 11 = u 11) : ExtG start gin gout beds ba bc base L' u' W :=
  ⟨fun e => by rw [f8]; exact h.c8 (e8 ▸ e), fun e => let ⟨k, h1, h2, h3⟩ := h.k11 (e11 ▸ e); ⟨k, f11.trans h1, h2, by rw [f8]; exact h3⟩⟩
structure ExtR (n k : Nat) (v : Value) : Prop where
  r8 : k = 8 → ∃ a c, v = .slice a n c
  r11 : k = 11 → ∃ b, v = .pointer (some ⟨b, 0, none⟩)
def extU (n k : Nat) : Value := if k = 8 then .slice none n 0 else .pointer (some ⟨0, 0, none⟩)
theorem extU_R (n k : Nat) : ExtR n k (extU n k) := ⟨by rintro rfl; exact ⟨none, 0, rfl⟩, by rintro rfl; exact ⟨0, rfl⟩⟩
/-- Between two visits. -/
structure ExI (start gin gout : Int) (beds : List Int) (ba : Option Addr) (bc : Nat) (la : Option Addr) (lc : Nat) (vs : List (List Int)) (R : Exa ⊕ (Int × Int)) (kx : Nat) (w6 : World) (k : Nat) (e : Exa) (sv : Value) (W : World) : Prop where
  le : k ≤ vs.length
  res : R = exaG start gin gout beds (vs.drop k) k e
  blk : Blk W kx (exC start gin gout beds ba bc e.t e.left e.inn la lc sv e.won)
  own : OwnI W w6.heap.size sv e.scores
  ne : ∀ q, sv.ownBlock = some q → q ≠ kx
  len : e.scores.length = k
  chg : Chg (· = kx) w6 W
set_option maxRecDepth 100000 in
set_option maxHeartbeats 8000000 in
theorem mean_Exact (start gin gout : Int) (beds : List Int) (ba : Option Addr) (bc : Nat) (vs : List (List Int)) (va : Option Addr) (vc : Nat) (w : World) (_hI : I64 start) (hR : RdI S0 w (.slice ba beds.length bc) beds) (hw : ∀ b ∈ beds, I64 b) (hV : VssAt w va vs) (hn : vs.length ≤ 1000000) :
    Calls Try.prog 30 #[.agg #[.int .i64 start, .int .i64 gin, .int .i64 gout], .slice ba beds.length bc, .slice va vs.length vc] w fun e w' => ExaA start gin gout beds (exaF start gin gout beds vs) w.heap.size e w' ∧ Ext w w' := by
  obtain ⟨R, hRR⟩ : ∃ y, exaF start gin gout beds vs = y := ⟨_, rfl⟩
  rw [hRR]
  have HRR := Lib.hid hRR
  have HR := Lib.hid hR
  have HW := Lib.hid hw
  have HV := Lib.hid hV
  have HN := Lib.hid hn
  have HVL := mean_isValid start gin gout beds ba bc
  clear hRR hw hV hR
  go_enter Try.func30, Try.ntmps30
  go_upto_region 1 with fail
  generalize hw1 : World.alloc (World.alloc (World.alloc w _) _) _ = w1
  obtain ⟨B, hBB⟩ : ∃ y, y = w.heap.size := ⟨_, rfl⟩
  rw [← hBB]
  have hx1 : Ext w w1 := by rw [← hw1]; exact (((Ext.refl w).alloc _).alloc _).alloc _
  have H3 : Hid (Blk w1 B #[.int .i64 start, .int .i64 gin, .int .i64 gout]) := Lib.hid (by rw [← hw1, hBB]; exact ((Blk.new w _ _).alloc _).alloc _)
  have HZ1 : Hid (ZedG (B + 1) (B + 1 + 1) w1) := Lib.hid ⟨by rw [← hw1]; exact (Blk.at _ (by simp [hBB])).alloc _, by rw [← hw1]; exact Blk.at _ (by simp [hBB]), by omega⟩
  have HX1 := Lib.hid hx1
  have HBB := Lib.hid hBB
  clear hw1 hx1 hBB
  have c0 := H3.out.cell 0 (v := .int .i64 start) rfl
  have c1 := H3.out.cell 1 (v := .int .i64 gin) rfl
  have c2 := H3.out.cell 2 (v := .int .i64 gout) rfl
  have cl := H3.out.lt
  go_wp2_with fail
  refine (HVL w1 (rd_cells (HR.out.ext HX1.out)).2 (HR.out.len) HW.out).mono ?_
  rintro r w2 ⟨rfl, hx2⟩
  have HX2 := Lib.hid (HX1.out.trans hx2)
  have HZ2 := Lib.hid (HZ1.out.ext hx2)
  have H32 := Lib.hid (H3.out.ext hx2)
  clear hx2 c0 c1 c2 cl HVL
  cases hlv : lawsB start gin gout beds
  · have HE : Hid (R = .inr (0, 2)) := Lib.hid (by rw [← HRR.out]; unfold exaF; rw [hlv]; rfl)
    go_upto_region 2 with fail
    refine wp_region_lat (by kernel_rfl) (fun b _ => b = (B + 1) ∨ b = (B + 1 + 1)) (fun k => (k == 0) || ((k == 1) || ((k == 2) || ((k == 3))))) (RsIs [(0, .agg #[.int .i64 0, .int .i64 0, .int .i64 0, .int .i64 0, .int .i64 0, .int .i64 0, .int .i64 0, .int .i64 0, .int .i64 0, .int .i64 0, .int .i64 0, .int .i64 0]), (1, .agg #[.int .i64 0, .int .i64 0, .int .i64 0, .slice none 0 0, .slice none 0 0, .bool false])]) (fun _ _ W => ZedG (B + 1) (B + 1 + 1) W) (by kernel_rfl)
      (fun k hk => by
        simp only [Bool.or_eq_true, beq_iff_eq] at hk
        rcases hk with rfl | rfl | rfl | rfl <;> decide)
      (fun L L' u w' h hg => hg) (fun L u a b h hx => h.ext hx) (rsW [(0, .agg #[.int .i64 0, .int .i64 0, .int .i64 0, .int .i64 0, .int .i64 0, .int .i64 0, .int .i64 0, .int .i64 0, .int .i64 0, .int .i64 0, .int .i64 0, .int .i64 0]), (1, .agg #[.int .i64 0, .int .i64 0, .int .i64 0, .slice none 0 0, .slice none 0 0, .bool false])]) (fun k _ => rsW_ok _ k) (HZ2.out.ext (Ext.refl w2).drew) ?_
    intro T hT hne2 u hu
    have e_0 : u 0 = .agg #[.int .i64 0, .int .i64 0, .int .i64 0, .int .i64 0, .int .i64 0, .int .i64 0, .int .i64 0, .int .i64 0, .int .i64 0, .int .i64 0, .int .i64 0, .int .i64 0] := hu 0 rfl
    have e_1 : u 1 = .agg #[.int .i64 0, .int .i64 0, .int .i64 0, .slice none 0 0, .slice none 0 0, .bool false] := hu 1 rfl
    refine lx_loud (by rfl) (by kernel_rfl) ?_ (fun K hK => ?_)
    · intro L w4 hL hd hcl hC hs
      obtain ⟨y, rfl⟩ := hC
      have HS := Lib.hid hs
      have r0 := hs.k6.cell 0 (v := .int .i64 0) rfl
      have r1 := hs.k6.cell 1 (v := .int .i64 0) rfl
      have r2 := hs.k6.cell 2 (v := .int .i64 0) rfl
      have r3 := hs.k6.cell 3 (v := .int .i64 0) rfl
      have r4 := hs.k6.cell 4 (v := .int .i64 0) rfl
      have r5 := hs.k6.cell 5 (v := .int .i64 0) rfl
      have r6 := hs.k6.cell 6 (v := .int .i64 0) rfl
      have r7 := hs.k6.cell 7 (v := .int .i64 0) rfl
      have r8 := hs.k6.cell 8 (v := .int .i64 0) rfl
      have r9 := hs.k6.cell 9 (v := .int .i64 0) rfl
      have r10 := hs.k6.cell 10 (v := .int .i64 0) rfl
      have r11 := hs.k6.cell 11 (v := .int .i64 0) rfl
      have rl := hs.k6.lt
      clear hs hL hd hcl
      go_wp2
      exact ⟨rfl, ⟨y, rfl⟩, HS.out⟩
    rw [e_0]
    go_simp
    with_reducible refine hK _ ?_
    clear hK K
    refine lx_loud (by rfl) (by kernel_rfl) ?_ (fun K hK => ?_)
    · intro L w4 hL hd hcl hC hs
      obtain ⟨y, rfl⟩ := hC
      have HS := Lib.hid hs
      have r0 := hs.k7.cell 0 (v := .int .i64 0) rfl
      have r1 := hs.k7.cell 1 (v := .int .i64 0) rfl
      have r2 := hs.k7.cell 2 (v := .int .i64 0) rfl
      have r3 := hs.k7.cell 3 (v := .slice none 0 0) rfl
      have r4 := hs.k7.cell 4 (v := .slice none 0 0) rfl
      have r5 := hs.k7.cell 5 (v := .bool false) rfl
      have rl := hs.k7.lt
      clear hs hL hd hcl
      go_wp2
      exact ⟨rfl, ⟨y, rfl⟩, HS.out⟩
    rw [e_1]
    go_simp
    with_reducible refine hK _ ?_
    clear hK K
    refine lx_loud (by rfl) (by kernel_rfl) ?_ (fun K hK => ?_)
    · intro L w4 hL hd hcl hC hs
      obtain ⟨y, rfl⟩ := hC
      have HS := Lib.hid hs
      have r0 := hs.k6.cell 0 (v := .int .i64 0) rfl
      have rf0 := hs.k6.frozen 0
      have r1 := hs.k6.cell 1 (v := .int .i64 0) rfl
      have rf1 := hs.k6.frozen 1
      have r2 := hs.k6.cell 2 (v := .int .i64 0) rfl
      have rf2 := hs.k6.frozen 2
      have r3 := hs.k6.cell 3 (v := .int .i64 0) rfl
      have rf3 := hs.k6.frozen 3
      have r4 := hs.k6.cell 4 (v := .int .i64 0) rfl
      have rf4 := hs.k6.frozen 4
      have r5 := hs.k6.cell 5 (v := .int .i64 0) rfl
      have rf5 := hs.k6.frozen 5
      have r6 := hs.k6.cell 6 (v := .int .i64 0) rfl
      have rf6 := hs.k6.frozen 6
      have r7 := hs.k6.cell 7 (v := .int .i64 0) rfl
      have rf7 := hs.k6.frozen 7
      have r8 := hs.k6.cell 8 (v := .int .i64 0) rfl
      have rf8 := hs.k6.frozen 8
      have r9 := hs.k6.cell 9 (v := .int .i64 0) rfl
      have rf9 := hs.k6.frozen 9
      have r10 := hs.k6.cell 10 (v := .int .i64 0) rfl
      have rf10 := hs.k6.frozen 10
      have r11 := hs.k6.cell 11 (v := .int .i64 0) rfl
      have rf11 := hs.k6.frozen 11
      have rl := hs.k6.lt
      clear hs hL hd hcl
      go_wp2
      have hc := twl_chg (· = (B + 1)) y.world (b := (B + 1)) rfl (.int .i64 0) (.int .i64 0) (.int .i64 0) (.int .i64 0) (.int .i64 0) (.int .i64 0) (.int .i64 0) (.int .i64 0) (.int .i64 0) (.int .i64 0) (.int .i64 0) (.int .i64 0)
      exact ⟨trivial, ⟨y.chgd hc (fun b hb => .inr fun _ => .inl hb), rfl⟩, HS.out.set6⟩
    go_simp
    with_reducible refine hK _ ?_
    clear hK K
    refine lx_loud (by rfl) (by kernel_rfl) ?_ (fun K hK => ?_)
    · intro L w4 hL hd hcl hC hs
      obtain ⟨y, rfl⟩ := hC
      have HS := Lib.hid hs
      have r0 := hs.k7.cell 0 (v := .int .i64 0) rfl
      have rf0 := hs.k7.frozen 0
      have r1 := hs.k7.cell 1 (v := .int .i64 0) rfl
      have rf1 := hs.k7.frozen 1
      have r2 := hs.k7.cell 2 (v := .int .i64 0) rfl
      have rf2 := hs.k7.frozen 2
      have r3 := hs.k7.cell 3 (v := .slice none 0 0) rfl
      have rf3 := hs.k7.frozen 3
      have r4 := hs.k7.cell 4 (v := .slice none 0 0) rfl
      have rf4 := hs.k7.frozen 4
      have r5 := hs.k7.cell 5 (v := .bool false) rfl
      have rf5 := hs.k7.frozen 5
      have rl := hs.k7.lt
      clear hs hL hd hcl
      go_wp2
      have hc := six_chg (· = (B + 1 + 1)) y.world (b := (B + 1 + 1)) rfl (.int .i64 0) (.int .i64 0) (.int .i64 0) (.slice none 0 0) (.slice none 0 0) (.bool false)
      exact ⟨trivial, ⟨y.chgd hc (fun b hb => .inr fun _ => .inr hb), rfl⟩, HS.out.set7⟩
    go_simp
    with_reducible refine hK _ ?_
    clear hK K
    refine lx_next 2 (by rfl) (by decide) ?_
    dsimp only [List.take, List.drop]
    repeat (go_big_quiet_step (fail))
    refine wpQuiet_nil ?_
    refine lx_nil ?_
    intro y hs
    have HZ9 := Lib.hid hs
    have HC9 : Hid (Chg (fun b => b = (B + 1) ∨ b = (B + 1 + 1)) w2 y.world) := Lib.hid (y.chg.mono (by rintro q - ⟨_, e⟩; exact e))
    clear hs hu hT hne2 e_0 e_1
    generalize y.world = w9 at *
    clear y
    go_wp2
    have q0 := HZ9.out.k6.cell 0 (v := .int .i64 0) rfl
    have q1 := HZ9.out.k6.cell 1 (v := .int .i64 0) rfl
    have q2 := HZ9.out.k6.cell 2 (v := .int .i64 0) rfl
    have q3 := HZ9.out.k6.cell 3 (v := .int .i64 0) rfl
    have q4 := HZ9.out.k6.cell 4 (v := .int .i64 0) rfl
    have q5 := HZ9.out.k6.cell 5 (v := .int .i64 0) rfl
    have q6 := HZ9.out.k6.cell 6 (v := .int .i64 0) rfl
    have q7 := HZ9.out.k6.cell 7 (v := .int .i64 0) rfl
    have q8 := HZ9.out.k6.cell 8 (v := .int .i64 0) rfl
    have q9 := HZ9.out.k6.cell 9 (v := .int .i64 0) rfl
    have q10 := HZ9.out.k6.cell 10 (v := .int .i64 0) rfl
    have q11 := HZ9.out.k6.cell 11 (v := .int .i64 0) rfl
    have p0 := HZ9.out.k7.cell 0 (v := .int .i64 0) rfl
    have p1 := HZ9.out.k7.cell 1 (v := .int .i64 0) rfl
    have p2 := HZ9.out.k7.cell 2 (v := .int .i64 0) rfl
    have p3 := HZ9.out.k7.cell 3 (v := .slice none 0 0) rfl
    have p4 := HZ9.out.k7.cell 4 (v := .slice none 0 0) rfl
    have p5 := HZ9.out.k7.cell 5 (v := .bool false) rfl
    refine bodyPost_ret (v := .tuple #[.agg #[.int .i64 0, .int .i64 0, .int .i64 0, .int .i64 0, .int .i64 0, .int .i64 0, .int .i64 0, .int .i64 0, .int .i64 0, .int .i64 0, .int .i64 0, .int .i64 0], .agg #[.int .i64 0, .int .i64 0, .int .i64 0, .slice none 0 0, .slice none 0 0, .bool false], .int .i64 0, .int .i64 2]) (by simp [results, Try.results30, go_sem, q0, q1, q2, q3, q4, q5, q6, q7, q8, q9, q10, q11, p0, p1, p2, p3, p4, p5]) rfl ⟨by rw [HE.out]; rfl, Chg.to_ext HX2.out HC9.out (by have := HBB.out; rintro i (rfl | rfl) <;> omega)⟩
  by_cases hbig : 100 < vs.length
  · have HE : Hid (R = .inr (0, 5)) := Lib.hid (by rw [← HRR.out]; unfold exaF; rw [hlv, if_neg (by simp), if_pos hbig])
    have hb' : (100 : Int) < (vs.length : Int) := by omega
    go_upto_region 4 with fail
    clear hb'
    refine wp_region_lat (by kernel_rfl) (fun b _ => b = (B + 1) ∨ b = (B + 1 + 1)) (fun k => (k == 0) || ((k == 1) || ((k == 2) || ((k == 3))))) (RsIs [(0, .agg #[.int .i64 0, .int .i64 0, .int .i64 0, .int .i64 0, .int .i64 0, .int .i64 0, .int .i64 0, .int .i64 0, .int .i64 0, .int .i64 0, .int .i64 0, .int .i64 0]), (1, .agg #[.int .i64 0, .int .i64 0, .int .i64 0, .slice none 0 0, .slice none 0 0, .bool false])]) (fun _ _ W => ZedG (B + 1) (B + 1 + 1) W) (by kernel_rfl)
      (fun k hk => by
        simp only [Bool.or_eq_true, beq_iff_eq] at hk
        rcases hk with rfl | rfl | rfl | rfl <;> decide)
      (fun L L' u w' h hg => hg) (fun L u a b h hx => h.ext hx) (rsW [(0, .agg #[.int .i64 0, .int .i64 0, .int .i64 0, .int .i64 0, .int .i64 0, .int .i64 0, .int .i64 0, .int .i64 0, .int .i64 0, .int .i64 0, .int .i64 0, .int .i64 0]), (1, .agg #[.int .i64 0, .int .i64 0, .int .i64 0, .slice none 0 0, .slice none 0 0, .bool false])]) (fun k _ => rsW_ok _ k) (HZ2.out.ext (Ext.refl w2).drew) ?_
    intro T hT hne2 u hu
    have e_0 : u 0 = .agg #[.int .i64 0, .int .i64 0, .int .i64 0, .int .i64 0, .int .i64 0, .int .i64 0, .int .i64 0, .int .i64 0, .int .i64 0, .int .i64 0, .int .i64 0, .int .i64 0] := hu 0 rfl
    have e_1 : u 1 = .agg #[.int .i64 0, .int .i64 0, .int .i64 0, .slice none 0 0, .slice none 0 0, .bool false] := hu 1 rfl
    refine lx_loud (by rfl) (by kernel_rfl) ?_ (fun K hK => ?_)
    · intro L w4 hL hd hcl hC hs
      obtain ⟨y, rfl⟩ := hC
      have HS := Lib.hid hs
      have r0 := hs.k6.cell 0 (v := .int .i64 0) rfl
      have r1 := hs.k6.cell 1 (v := .int .i64 0) rfl
      have r2 := hs.k6.cell 2 (v := .int .i64 0) rfl
      have r3 := hs.k6.cell 3 (v := .int .i64 0) rfl
      have r4 := hs.k6.cell 4 (v := .int .i64 0) rfl
      have r5 := hs.k6.cell 5 (v := .int .i64 0) rfl
      have r6 := hs.k6.cell 6 (v := .int .i64 0) rfl
      have r7 := hs.k6.cell 7 (v := .int .i64 0) rfl
      have r8 := hs.k6.cell 8 (v := .int .i64 0) rfl
      have r9 := hs.k6.cell 9 (v := .int .i64 0) rfl
      have r10 := hs.k6.cell 10 (v := .int .i64 0) rfl
      have r11 := hs.k6.cell 11 (v := .int .i64 0) rfl
      have rl := hs.k6.lt
      clear hs hL hd hcl
      go_wp2
      exact ⟨rfl, ⟨y, rfl⟩, HS.out⟩
    rw [e_0]
    go_simp
    with_reducible refine hK _ ?_
    clear hK K
    refine lx_loud (by rfl) (by kernel_rfl) ?_ (fun K hK => ?_)
    · intro L w4 hL hd hcl hC hs
      obtain ⟨y, rfl⟩ := hC
      have HS := Lib.hid hs
      have r0 := hs.k7.cell 0 (v := .int .i64 0) rfl
      have r1 := hs.k7.cell 1 (v := .int .i64 0) rfl
      have r2 := hs.k7.cell 2 (v := .int .i64 0) rfl
      have r3 := hs.k7.cell 3 (v := .slice none 0 0) rfl
      have r4 := hs.k7.cell 4 (v := .slice none 0 0) rfl
      have r5 := hs.k7.cell 5 (v := .bool false) rfl
      have rl := hs.k7.lt
      clear hs hL hd hcl
      go_wp2
      exact ⟨rfl, ⟨y, rfl⟩, HS.out⟩
    rw [e_1]
    go_simp
    with_reducible refine hK _ ?_
    clear hK K
    refine lx_loud (by rfl) (by kernel_rfl) ?_ (fun K hK => ?_)
    · intro L w4 hL hd hcl hC hs
      obtain ⟨y, rfl⟩ := hC
      have HS := Lib.hid hs
      have r0 := hs.k6.cell 0 (v := .int .i64 0) rfl
      have rf0 := hs.k6.frozen 0
      have r1 := hs.k6.cell 1 (v := .int .i64 0) rfl
      have rf1 := hs.k6.frozen 1
      have r2 := hs.k6.cell 2 (v := .int .i64 0) rfl
      have rf2 := hs.k6.frozen 2
      have r3 := hs.k6.cell 3 (v := .int .i64 0) rfl
      have rf3 := hs.k6.frozen 3
      have r4 := hs.k6.cell 4 (v := .int .i64 0) rfl
      have rf4 := hs.k6.frozen 4
      have r5 := hs.k6.cell 5 (v := .int .i64 0) rfl
      have rf5 := hs.k6.frozen 5
      have r6 := hs.k6.cell 6 (v := .int .i64 0) rfl
      have rf6 := hs.k6.frozen 6
      have r7 := hs.k6.cell 7 (v := .int .i64 0) rfl
      have rf7 := hs.k6.frozen 7
      have r8 := hs.k6.cell 8 (v := .int .i64 0) rfl
      have rf8 := hs.k6.frozen 8
      have r9 := hs.k6.cell 9 (v := .int .i64 0) rfl
      have rf9 := hs.k6.frozen 9
      have r10 := hs.k6.cell 10 (v := .int .i64 0) rfl
      have rf10 := hs.k6.frozen 10
      have r11 := hs.k6.cell 11 (v := .int .i64 0) rfl
      have rf11 := hs.k6.frozen 11
      have rl := hs.k6.lt
      clear hs hL hd hcl
      go_wp2
      have hc := twl_chg (· = (B + 1)) y.world (b := (B + 1)) rfl (.int .i64 0) (.int .i64 0) (.int .i64 0) (.int .i64 0) (.int .i64 0) (.int .i64 0) (.int .i64 0) (.int .i64 0) (.int .i64 0) (.int .i64 0) (.int .i64 0) (.int .i64 0)
      exact ⟨trivial, ⟨y.chgd hc (fun b hb => .inr fun _ => .inl hb), rfl⟩, HS.out.set6⟩
    go_simp
    with_reducible refine hK _ ?_
    clear hK K
    refine lx_loud (by rfl) (by kernel_rfl) ?_ (fun K hK => ?_)
    · intro L w4 hL hd hcl hC hs
      obtain ⟨y, rfl⟩ := hC
      have HS := Lib.hid hs
      have r0 := hs.k7.cell 0 (v := .int .i64 0) rfl
      have rf0 := hs.k7.frozen 0
      have r1 := hs.k7.cell 1 (v := .int .i64 0) rfl
      have rf1 := hs.k7.frozen 1
      have r2 := hs.k7.cell 2 (v := .int .i64 0) rfl
      have rf2 := hs.k7.frozen 2
      have r3 := hs.k7.cell 3 (v := .slice none 0 0) rfl
      have rf3 := hs.k7.frozen 3
      have r4 := hs.k7.cell 4 (v := .slice none 0 0) rfl
      have rf4 := hs.k7.frozen 4
      have r5 := hs.k7.cell 5 (v := .bool false) rfl
      have rf5 := hs.k7.frozen 5
      have rl := hs.k7.lt
      clear hs hL hd hcl
      go_wp2
      have hc := six_chg (· = (B + 1 + 1)) y.world (b := (B + 1 + 1)) rfl (.int .i64 0) (.int .i64 0) (.int .i64 0) (.slice none 0 0) (.slice none 0 0) (.bool false)
      exact ⟨trivial, ⟨y.chgd hc (fun b hb => .inr fun _ => .inr hb), rfl⟩, HS.out.set7⟩
    go_simp
    with_reducible refine hK _ ?_
    clear hK K
    refine lx_next 2 (by rfl) (by decide) ?_
    dsimp only [List.take, List.drop]
    repeat (go_big_quiet_step (fail))
    refine wpQuiet_nil ?_
    refine lx_nil ?_
    intro y hs
    have HZ9 := Lib.hid hs
    have HC9 : Hid (Chg (fun b => b = (B + 1) ∨ b = (B + 1 + 1)) w2 y.world) := Lib.hid (y.chg.mono (by rintro q - ⟨_, e⟩; exact e))
    clear hs hu hT hne2 e_0 e_1
    generalize y.world = w9 at *
    clear y
    go_wp2
    have q0 := HZ9.out.k6.cell 0 (v := .int .i64 0) rfl
    have q1 := HZ9.out.k6.cell 1 (v := .int .i64 0) rfl
    have q2 := HZ9.out.k6.cell 2 (v := .int .i64 0) rfl
    have q3 := HZ9.out.k6.cell 3 (v := .int .i64 0) rfl
    have q4 := HZ9.out.k6.cell 4 (v := .int .i64 0) rfl
    have q5 := HZ9.out.k6.cell 5 (v := .int .i64 0) rfl
    have q6 := HZ9.out.k6.cell 6 (v := .int .i64 0) rfl
    have q7 := HZ9.out.k6.cell 7 (v := .int .i64 0) rfl
    have q8 := HZ9.out.k6.cell 8 (v := .int .i64 0) rfl
    have q9 := HZ9.out.k6.cell 9 (v := .int .i64 0) rfl
    have q10 := HZ9.out.k6.cell 10 (v := .int .i64 0) rfl
    have q11 := HZ9.out.k6.cell 11 (v := .int .i64 0) rfl
    have p0 := HZ9.out.k7.cell 0 (v := .int .i64 0) rfl
    have p1 := HZ9.out.k7.cell 1 (v := .int .i64 0) rfl
    have p2 := HZ9.out.k7.cell 2 (v := .int .i64 0) rfl
    have p3 := HZ9.out.k7.cell 3 (v := .slice none 0 0) rfl
    have p4 := HZ9.out.k7.cell 4 (v := .slice none 0 0) rfl
    have p5 := HZ9.out.k7.cell 5 (v := .bool false) rfl
    refine bodyPost_ret (v := .tuple #[.agg #[.int .i64 0, .int .i64 0, .int .i64 0, .int .i64 0, .int .i64 0, .int .i64 0, .int .i64 0, .int .i64 0, .int .i64 0, .int .i64 0, .int .i64 0, .int .i64 0], .agg #[.int .i64 0, .int .i64 0, .int .i64 0, .slice none 0 0, .slice none 0 0, .bool false], .int .i64 0, .int .i64 5]) (by simp [results, Try.results30, go_sem, q0, q1, q2, q3, q4, q5, q6, q7, q8, q9, q10, q11, p0, p1, p2, p3, p4, p5]) rfl ⟨by rw [HE.out]; rfl, Chg.to_ext HX2.out HC9.out (by have := HBB.out; rintro i (rfl | rfl) <;> omega)⟩
  have HE : Hid (R = exaG start gin gout beds vs 0 (exa0 start)) := Lib.hid (by rw [← HRR.out]; unfold exaF; rw [hlv, if_neg (by simp), if_neg hbig])
  have hbd : bedsB beds = true ∧ beds.length ≤ 82 := by
    unfold lawsB at hlv
    simp only [Bool.and_eq_true, ins, out1, List.any_cons, List.any_nil, Bool.or_false, Bool.not_eq_true'] at hlv
    obtain ⟨h1, ⟨h2, h3⟩, h4⟩ := hlv
    simp at h4
    exact ⟨h1, by omega⟩
  have HBD := Lib.hid hbd
  have HVN : Hid (vs.length ≤ 100) := Lib.hid (by omega)
  have hb' : ¬ (100 : Int) < (vs.length : Int) := by omega
  clear hlv hbd
  have y0 : ∀ y : Lat NoX w2, y.world.cell? ⟨B, 0, none⟩ = some (.int .i64 start) := fun y => (H32.out.ext (Lat.ext0 y)).cell 0 rfl
  have y1 : ∀ y : Lat NoX w2, y.world.cell? ⟨B, 1, none⟩ = some (.int .i64 gin) := fun y => (H32.out.ext (Lat.ext0 y)).cell 1 rfl
  have y2 : ∀ y : Lat NoX w2, y.world.cell? ⟨B, 2, none⟩ = some (.int .i64 gout) := fun y => (H32.out.ext (Lat.ext0 y)).cell 2 rfl
  have y3l := H32.out.lt
  go_upto_region 5 with fail
  clear hb'
  refine wp_region_lat (by kernel_rfl) NoX (fun k => (k == 8) || (k == 11)) (ExtR beds.length) (ExtG start gin gout beds ba bc w2.heap.size) (by kernel_rfl)
    (fun k hk => by
      simp only [Bool.or_eq_true, beq_iff_eq] at hk
      rcases hk with rfl | rfl <;> decide)
    (fun L L' u w' h hg => hg.congr (h 8 rfl) (h 11 rfl) rfl rfl) (fun L u a b h hx => h.ext hx) (extU beds.length) (fun k _ => extU_R _ k) ⟨fun h => (by cases h), fun h => (by cases h)⟩ ?_
  intro T hT hne2 u hu
  obtain ⟨la, lc, e8⟩ := (hu 8 rfl).r8 rfl
  obtain ⟨kx, e11⟩ := (hu 11 rfl).r11 rfl
  refine lx_next 8 (by rfl) (by decide) ?_
  dsimp only [List.take, List.drop]
  repeat (go_big_quiet_step (fail))
  refine wpQuiet_nil ?_
  refine lx_loud (by rfl) (by kernel_rfl) ?_ (fun K hK => ?_)
  · intro L w4 hL hd hcl hC hs
    obtain ⟨y, rfl⟩ := hC
    have D11 := Lib.hid (hcl.off hL 40 11 (by kernel_rfl))
    have hys := y.size
    have HXY := Lib.hid (HX2.out.trans (Lat.ext0 y))
    clear hs hL hd hcl
    go_wp2_with fail
    refine (clone_d beds ba bc y.world (rd_cells (HR.out.ext HXY.out)).2 (fun h => by
      have hr := HR.out
      subst h
      obtain ⟨_, _, e1, -, h2, h3, h4⟩ := hr.cells
      cases e1
      exact h4 rfl) (by have := HBD.out; omega)).mono ?_
    rintro r w5 ⟨v, rfl, hv, hx⟩
    obtain ⟨oa, oc, rfl⟩ := hv.shape
    go_wp2
    exact ⟨⟨fun _ => ⟨_, _, rfl⟩, fun h => absurd h (by decide)⟩, ⟨y.ext hx, rfl⟩, ⟨fun _ => own_mono hv hys, fun h => absurd h (by rw [show upd L 8 11 = L 11 from rfl, D11.out]; simp)⟩⟩
  rw [e8]
  go_simp
  with_reducible refine hK _ ?_
  clear hK K
  refine lx_next 2 (by rfl) (by decide) ?_
  dsimp only [List.take, List.drop]
  repeat (go_big_quiet_step (fail))
  refine wpQuiet_nil ?_
  refine lx_loud (by rfl) (by kernel_rfl) ?_ (fun K hK => ?_)
  · intro L w4 hL hd hcl hC hs
    obtain ⟨y, rfl⟩ := hC
    have hys := y.size
    have HC8 := Lib.hid (hs.c8 (Closed.on hcl 40 (hd 10 (by kernel_rfl)) (by kernel_rfl)))
    have hx : Ext y.world (y.world.alloc (.cells #[.int .i64 start, .int .i64 gin, .int .i64 gout, .slice ba beds.length bc, .int .i64 0, .int .i64 0, .int .i64 0, .int .i64 0, .int .i64 0, .int .i64 0, .int .i64 0, .int .i64 0, .int .i64 0, .int .i64 0, .int .i64 0, .int .i64 0, .int .i64 start, .bool false, .int .i64 start, .int .i64 gin, .int .i64 gout, .slice la beds.length lc, .slice none 0 0, .bool false] 139)) := (Ext.refl _).alloc _
    clear hs hL hd hcl
    go_wp2
    exact ⟨⟨fun h => absurd h (by decide), fun _ => ⟨_, rfl⟩⟩, ⟨y.ext hx, rfl⟩, ⟨fun _ => HC8.out.ext hx, fun _ => ⟨_, rfl, hys, by rw [show updv u 11 _ 8 = u 8 from rfl, e8]; exact Blk.new _ _ _, fun q hq => by have h := (World.ownsRow.lt HC8.out q hq).2; omega⟩⟩⟩
  rw [e11]
  go_simp
  with_reducible refine hK _ ?_
  clear hK K
  refine lx_next 1 (by rfl) (by decide) ?_
  dsimp only [List.take, List.drop]
  repeat (go_big_quiet_step (fail))
  refine wpQuiet_nil ?_
  refine lx_nil ?_
  intro y hs
  have hc8 := hs.c8 rfl
  obtain ⟨k, ek, hk, hbk, hkn⟩ := hs.k11 rfl
  obtain rfl : kx = k := by have h := e11.symm.trans ek; cases h; rfl
  rw [e8] at hc8 hbk hkn
  have HKN := Lib.hid hkn
  have HC8 : Hid (OwnD y.world w2.heap.size (.slice la beds.length lc) beds) := Lib.hid hc8
  have HBX : Hid (Blk y.world kx #[.int .i64 start, .int .i64 gin, .int .i64 gout, .slice ba beds.length bc, .int .i64 0, .int .i64 0, .int .i64 0, .int .i64 0, .int .i64 0, .int .i64 0, .int .i64 0, .int .i64 0, .int .i64 0, .int .i64 0, .int .i64 0, .int .i64 0, .int .i64 start, .bool false, .int .i64 start, .int .i64 gin, .int .i64 gout, .slice la beds.length lc, .slice none 0 0, .bool false]) := Lib.hid hbk
  have HKX := Lib.hid hk
  have HX2Y := Lib.hid (Lat.ext0 y)
  clear hs hc8 hbk hk hkn ek e8 e11 hu hT hne2 y0 y1 y2 y3l
  generalize y.world = w5 at *
  clear y
  have HX5 := Lib.hid (HX2.out.trans HX2Y.out)
  have HZ5 := Lib.hid (HZ2.out.ext HX2Y.out)
  have l0 := HBX.out.cell 4 (v := .int .i64 0) rfl
  have lf0 := HBX.out.frozen 4
  have ll := HBX.out.lt
  go_upto_region 7 with fail
  have hb6 : Blk _ kx #[.int .i64 start, .int .i64 gin, .int .i64 gout, .slice ba beds.length bc, .int .i64 1, .int .i64 0, .int .i64 0, .int .i64 0, .int .i64 0, .int .i64 0, .int .i64 0, .int .i64 0, .int .i64 0, .int .i64 0, .int .i64 0, .int .i64 0, .int .i64 start, .bool false, .int .i64 start, .int .i64 gin, .int .i64 gout, .slice la beds.length lc, .slice none 0 0, .bool false] := HBX.out.set 4 (.int .i64 1)
  have hc6 := (Chg.refl (· = kx) w5).setCell (p := ⟨kx, 4, none⟩) (.inr rfl) (.int .i64 1)
  generalize World.setCell _ _ _ = w6 at hb6 hc6 ⊢
  have HB6 := Lib.hid hb6
  have HC6 := Lib.hid hc6
  have HNK : Hid (B + 1 + 1 < kx ∧ kx < w6.heap.size ∧ w2.heap.size ≤ kx ∧ w.heap.size = B ∧ B + 1 + 1 < w2.heap.size ∧ w.heap.size ≤ w2.heap.size) := Lib.hid (by
    have h1 := HZ2.out.k7.lt
    have h2 := HKX.out
    have h3 := hb6.lt
    have h4 := HBB.out
    have h5 := HX2.out.size
    exact ⟨by omega, h3, h2, by omega, h1, h5⟩)
  have HZ6 := Lib.hid (HZ5.out.chg hc6 (by have := HNK.out; omega) (by have := HNK.out; omega))
  have HL6 : Hid (OwnD w6 w2.heap.size (.slice la beds.length lc) beds) := Lib.hid (own_chg HC8.out hc6 (fun k hk e => HKN.out k hk e))
  have HW6 : Hid (Chg S0 w w6) := Lib.hid ((HX5.out.chg S0).far hc6 (fun j hj => .inr (by have h := HNK.out; have h' : j = kx := hj; omega)))
  clear l0 lf0 ll hb6 hc6
  go_wp2
  go_loopw [47] (fun i wr => ∃ (k : Nat) (e : Exa) (sv : Value), i = .int .i64 k ∧ ExI start gin gout beds ba bc la lc vs R kx w6 k e sv wr) (fun i _ => vs.length - (intOf i).toNat)
  case atStart => exact ⟨0, exa0 start, .slice none 0 0, rfl, ⟨Nat.zero_le _, by rw [HE.out, List.drop_zero], HB6.out, OwnI.nil _ _, (fun q hq => by cases hq), rfl, Chg.refl _ _⟩⟩
  case round =>
    obtain ⟨k, e, sv, rfl, hI⟩ := hrel
    obtain ⟨xa, xc, rfl⟩ := own_shape hI.own
    have HI2 := Lib.hid hI
    have HZR := Lib.hid (HZ6.out.chg hI.chg (by have := HNK.out; omega) (by have := HNK.out; omega))
    have HWR : Hid (Chg S0 w wr) := Lib.hid (HW6.out.far hI.chg (fun j hj => .inr (by have h := HNK.out; have h' : j = kx := hj; omega)))
    have HLR : Hid (OwnD wr w2.heap.size (.slice la beds.length lc) beds) := Lib.hid (own_chg HL6.out hI.chg (fun q hq e => HKN.out q hq e))
    clear hI
    by_cases hlt : k < vs.length
    · obtain ⟨bb, bo, wa, wc, rfl, hcell, hcl, hwc, hwi, hwl⟩ := HV.out k hlt
      obtain ⟨vb, hvb⟩ : ∃ y, vs[k] = y := ⟨_, rfl⟩
      rw [hvb] at hcell hcl hwc hwi hwl
      have HVB := Lib.hid hvb
      have c0 := HWR.out.cell hcell id
      have c1 := lt_of_cell c0
      simp only at c1
      have hcr : ∀ {a : Option Addr} {xs : List Int}, CellsAt w .i64 a xs → CellsAt wr .i64 a xs := fun h i hi => let ⟨b, o, e1, h1⟩ := h i hi; ⟨b, o, e1, HWR.out.cell h1 id⟩
      have hth := mean_throw start gin gout beds ba bc e la lc (.slice xa e.scores.length xc) kx w6.heap.size vb wa wc wr HI2.out.blk (hcr (rd_cells HR.out).2) (hcr hcl) HBD.out.1 (by have := HBD.out; omega) hwl hwc hwi HI2.out.own (by have h1 := HI2.out.len; have h2 := HVN.out; omega) HI2.out.chg.size HI2.out.ne
      obtain ⟨er, her⟩ : ∃ y, exaE start gin gout beds e vb = y := ⟨_, rfl⟩
      rw [her] at hth
      have HER := Lib.hid her
      have HTH := Lib.hid hth
      clear her hth hvb hcell hcl hwc hwi hwl hcr
      go_wp2_with fail
      refine HTH.out.mono ?_
      rintro r w8 ⟨rfl, hbad, hgood⟩
      have HBAD := Lib.hid hbad
      have HGOOD := Lib.hid hgood
      clear hbad hgood HTH c0 c1
      by_cases he0 : er = 0
      · subst he0
        obtain ⟨sv', hb', ho', hn', hc'⟩ := HGOOD.out rfl
        have HB' := Lib.hid hb'
        have HO' := Lib.hid ho'
        have HN' := Lib.hid hn'
        have HC' := Lib.hid hc'
        have hv100 := HVN.out
        clear hb' ho' hn' hc'
        go_wp2
        go_roundw
        case rel =>
          refine ⟨k + 1, exaS start gin gout beds e vb, sv', by go_num, ⟨hlt, ?_, HB'.out, HO'.out, fun q hq => (HN'.out q hq).1, by show (e.scores ++ [_]).length = _; simp [HI2.out.len], ?_⟩⟩
          · have h := exaG_ok (start := start) (gin := gin) (gout := gout) (beds := beds) (e := e) hlt (by rw [HVB.out]; exact HER.out)
            rw [HVB.out] at h
            rw [HI2.out.res, h]
          · exact HI2.out.chg.far HC'.out (fun j hj => by
              rcases hj with h | h
              · exact .inl h
              · exact .inr (World.ownsRow.lt HI2.out.own j h).1)
        case measure => simp [intOf]; omega
      · have HE9 : Hid (R = .inr ((k : Int), er)) := Lib.hid (by
          rw [HI2.out.res, exaG_bad hlt (by rw [HVB.out, HER.out]; exact he0), HVB.out, HER.out])
        have HX8 := Lib.hid (HBAD.out he0)
        have HZ8 := Lib.hid (HZR.out.ext HX8.out)
        go_upto_region 12 with fail
        refine wp_region_lat (by kernel_rfl) (fun b _ => b = (B + 1) ∨ b = (B + 1 + 1)) (fun k => (k == 0) || ((k == 1) || ((k == 4) || ((k == 5))))) (RsIs [(0, .agg #[.int .i64 0, .int .i64 0, .int .i64 0, .int .i64 0, .int .i64 0, .int .i64 0, .int .i64 0, .int .i64 0, .int .i64 0, .int .i64 0, .int .i64 0, .int .i64 0]), (1, .agg #[.int .i64 0, .int .i64 0, .int .i64 0, .slice none 0 0, .slice none 0 0, .bool false])]) (fun _ _ W => ZedG (B + 1) (B + 1 + 1) W) (by kernel_rfl)
          (fun k hk => by
            simp only [Bool.or_eq_true, beq_iff_eq] at hk
            rcases hk with rfl | rfl | rfl | rfl <;> decide)
          (fun L L' u w' h hg => hg) (fun L u a b h hx => h.ext hx) (rsW [(0, .agg #[.int .i64 0, .int .i64 0, .int .i64 0, .int .i64 0, .int .i64 0, .int .i64 0, .int .i64 0, .int .i64 0, .int .i64 0, .int .i64 0, .int .i64 0, .int .i64 0]), (1, .agg #[.int .i64 0, .int .i64 0, .int .i64 0, .slice none 0 0, .slice none 0 0, .bool false])]) (fun k _ => rsW_ok _ k) (HZ8.out.ext (Ext.refl w8).drew) ?_
        intro T hT hne2 u hu
        have e_0 : u 0 = .agg #[.int .i64 0, .int .i64 0, .int .i64 0, .int .i64 0, .int .i64 0, .int .i64 0, .int .i64 0, .int .i64 0, .int .i64 0, .int .i64 0, .int .i64 0, .int .i64 0] := hu 0 rfl
        have e_1 : u 1 = .agg #[.int .i64 0, .int .i64 0, .int .i64 0, .slice none 0 0, .slice none 0 0, .bool false] := hu 1 rfl
        refine lx_loud (by rfl) (by kernel_rfl) ?_ (fun K hK => ?_)
        · intro L w4 hL hd hcl hC hs
          obtain ⟨y, rfl⟩ := hC
          have HS := Lib.hid hs
          have r0 := hs.k6.cell 0 (v := .int .i64 0) rfl
          have r1 := hs.k6.cell 1 (v := .int .i64 0) rfl
          have r2 := hs.k6.cell 2 (v := .int .i64 0) rfl
          have r3 := hs.k6.cell 3 (v := .int .i64 0) rfl
          have r4 := hs.k6.cell 4 (v := .int .i64 0) rfl
          have r5 := hs.k6.cell 5 (v := .int .i64 0) rfl
          have r6 := hs.k6.cell 6 (v := .int .i64 0) rfl
          have r7 := hs.k6.cell 7 (v := .int .i64 0) rfl
          have r8 := hs.k6.cell 8 (v := .int .i64 0) rfl
          have r9 := hs.k6.cell 9 (v := .int .i64 0) rfl
          have r10 := hs.k6.cell 10 (v := .int .i64 0) rfl
          have r11 := hs.k6.cell 11 (v := .int .i64 0) rfl
          have rl := hs.k6.lt
          clear hs hL hd hcl
          go_wp2
          exact ⟨rfl, ⟨y, rfl⟩, HS.out⟩
        rw [e_0]
        go_simp
        with_reducible refine hK _ ?_
        clear hK K
        refine lx_loud (by rfl) (by kernel_rfl) ?_ (fun K hK => ?_)
        · intro L w4 hL hd hcl hC hs
          obtain ⟨y, rfl⟩ := hC
          have HS := Lib.hid hs
          have r0 := hs.k7.cell 0 (v := .int .i64 0) rfl
          have r1 := hs.k7.cell 1 (v := .int .i64 0) rfl
          have r2 := hs.k7.cell 2 (v := .int .i64 0) rfl
          have r3 := hs.k7.cell 3 (v := .slice none 0 0) rfl
          have r4 := hs.k7.cell 4 (v := .slice none 0 0) rfl
          have r5 := hs.k7.cell 5 (v := .bool false) rfl
          have rl := hs.k7.lt
          clear hs hL hd hcl
          go_wp2
          exact ⟨rfl, ⟨y, rfl⟩, HS.out⟩
        rw [e_1]
        go_simp
        with_reducible refine hK _ ?_
        clear hK K
        refine lx_next 2 (by rfl) (by decide) ?_
        dsimp only [List.take, List.drop]
        repeat (go_big_quiet_step (fail))
        refine wpQuiet_nil ?_
        refine lx_loud (by rfl) (by kernel_rfl) ?_ (fun K hK => ?_)
        · intro L w4 hL hd hcl hC hs
          obtain ⟨y, rfl⟩ := hC
          have HS := Lib.hid hs
          have r0 := hs.k6.cell 0 (v := .int .i64 0) rfl
          have rf0 := hs.k6.frozen 0
          have r1 := hs.k6.cell 1 (v := .int .i64 0) rfl
          have rf1 := hs.k6.frozen 1
          have r2 := hs.k6.cell 2 (v := .int .i64 0) rfl
          have rf2 := hs.k6.frozen 2
          have r3 := hs.k6.cell 3 (v := .int .i64 0) rfl
          have rf3 := hs.k6.frozen 3
          have r4 := hs.k6.cell 4 (v := .int .i64 0) rfl
          have rf4 := hs.k6.frozen 4
          have r5 := hs.k6.cell 5 (v := .int .i64 0) rfl
          have rf5 := hs.k6.frozen 5
          have r6 := hs.k6.cell 6 (v := .int .i64 0) rfl
          have rf6 := hs.k6.frozen 6
          have r7 := hs.k6.cell 7 (v := .int .i64 0) rfl
          have rf7 := hs.k6.frozen 7
          have r8 := hs.k6.cell 8 (v := .int .i64 0) rfl
          have rf8 := hs.k6.frozen 8
          have r9 := hs.k6.cell 9 (v := .int .i64 0) rfl
          have rf9 := hs.k6.frozen 9
          have r10 := hs.k6.cell 10 (v := .int .i64 0) rfl
          have rf10 := hs.k6.frozen 10
          have r11 := hs.k6.cell 11 (v := .int .i64 0) rfl
          have rf11 := hs.k6.frozen 11
          have rl := hs.k6.lt
          clear hs hL hd hcl
          go_wp2
          have hc := twl_chg (· = (B + 1)) y.world (b := (B + 1)) rfl (.int .i64 0) (.int .i64 0) (.int .i64 0) (.int .i64 0) (.int .i64 0) (.int .i64 0) (.int .i64 0) (.int .i64 0) (.int .i64 0) (.int .i64 0) (.int .i64 0) (.int .i64 0)
          exact ⟨trivial, ⟨y.chgd hc (fun b hb => .inr fun _ => .inl hb), rfl⟩, HS.out.set6⟩
        go_simp
        with_reducible refine hK _ ?_
        clear hK K
        refine lx_loud (by rfl) (by kernel_rfl) ?_ (fun K hK => ?_)
        · intro L w4 hL hd hcl hC hs
          obtain ⟨y, rfl⟩ := hC
          have HS := Lib.hid hs
          have r0 := hs.k7.cell 0 (v := .int .i64 0) rfl
          have rf0 := hs.k7.frozen 0
          have r1 := hs.k7.cell 1 (v := .int .i64 0) rfl
          have rf1 := hs.k7.frozen 1
          have r2 := hs.k7.cell 2 (v := .int .i64 0) rfl
          have rf2 := hs.k7.frozen 2
          have r3 := hs.k7.cell 3 (v := .slice none 0 0) rfl
          have rf3 := hs.k7.frozen 3
          have r4 := hs.k7.cell 4 (v := .slice none 0 0) rfl
          have rf4 := hs.k7.frozen 4
          have r5 := hs.k7.cell 5 (v := .bool false) rfl
          have rf5 := hs.k7.frozen 5
          have rl := hs.k7.lt
          clear hs hL hd hcl
          go_wp2
          have hc := six_chg (· = (B + 1 + 1)) y.world (b := (B + 1 + 1)) rfl (.int .i64 0) (.int .i64 0) (.int .i64 0) (.slice none 0 0) (.slice none 0 0) (.bool false)
          exact ⟨trivial, ⟨y.chgd hc (fun b hb => .inr fun _ => .inr hb), rfl⟩, HS.out.set7⟩
        go_simp
        with_reducible refine hK _ ?_
        clear hK K
        refine lx_next 2 (by rfl) (by decide) ?_
        dsimp only [List.take, List.drop]
        repeat (go_big_quiet_step (fail))
        refine wpQuiet_nil ?_
        refine lx_nil ?_
        intro y hs
        have HZ9 := Lib.hid hs
        have HC9 : Hid (Chg (fun b => b = (B + 1) ∨ b = (B + 1 + 1)) w8 y.world) := Lib.hid (y.chg.mono (by rintro q - ⟨_, e⟩; exact e))
        clear hs hu hT hne2 e_0 e_1
        generalize y.world = w9 at *
        clear y
        go_wp2
        have q0 := HZ9.out.k6.cell 0 (v := .int .i64 0) rfl
        have q1 := HZ9.out.k6.cell 1 (v := .int .i64 0) rfl
        have q2 := HZ9.out.k6.cell 2 (v := .int .i64 0) rfl
        have q3 := HZ9.out.k6.cell 3 (v := .int .i64 0) rfl
        have q4 := HZ9.out.k6.cell 4 (v := .int .i64 0) rfl
        have q5 := HZ9.out.k6.cell 5 (v := .int .i64 0) rfl
        have q6 := HZ9.out.k6.cell 6 (v := .int .i64 0) rfl
        have q7 := HZ9.out.k6.cell 7 (v := .int .i64 0) rfl
        have q8 := HZ9.out.k6.cell 8 (v := .int .i64 0) rfl
        have q9 := HZ9.out.k6.cell 9 (v := .int .i64 0) rfl
        have q10 := HZ9.out.k6.cell 10 (v := .int .i64 0) rfl
        have q11 := HZ9.out.k6.cell 11 (v := .int .i64 0) rfl
        have p0 := HZ9.out.k7.cell 0 (v := .int .i64 0) rfl
        have p1 := HZ9.out.k7.cell 1 (v := .int .i64 0) rfl
        have p2 := HZ9.out.k7.cell 2 (v := .int .i64 0) rfl
        have p3 := HZ9.out.k7.cell 3 (v := .slice none 0 0) rfl
        have p4 := HZ9.out.k7.cell 4 (v := .slice none 0 0) rfl
        have p5 := HZ9.out.k7.cell 5 (v := .bool false) rfl
        refine bodyPost_ret (v := .tuple #[.agg #[.int .i64 0, .int .i64 0, .int .i64 0, .int .i64 0, .int .i64 0, .int .i64 0, .int .i64 0, .int .i64 0, .int .i64 0, .int .i64 0, .int .i64 0, .int .i64 0], .agg #[.int .i64 0, .int .i64 0, .int .i64 0, .slice none 0 0, .slice none 0 0, .bool false], .int .i64 k, .int .i64 er]) (by simp [results, Try.results30, go_sem, q0, q1, q2, q3, q4, q5, q6, q7, q8, q9, q10, q11, p0, p1, p2, p3, p4, p5]) rfl ⟨by rw [HE9.out]; rfl, Chg.to_ext (Ext.refl w) ((((HWR.out.ext' HX8.out).mono (T := fun q => w.heap.size ≤ q) (fun _ _ h => h.elim))).trans (HC9.out.mono (fun q _ h => by have := HBB.out; show w.heap.size ≤ q; rcases h with h | h <;> omega))) (fun _ h => h)⟩
    · obtain rfl : vs.length = k := by have := HI2.out.le; omega
      have HE9 : Hid (R = .inl e) := Lib.hid (by rw [HI2.out.res, List.drop_length]; rfl)
      have HBR : Hid (Blk wr kx #[.int .i64 start, .int .i64 gin, .int .i64 gout, .slice ba beds.length bc, .int .i64 e.t.legs, .int .i64 e.t.won, .int .i64 e.t.visits, .int .i64 e.t.points, .int .i64 e.t.darts.lo, .int .i64 e.t.darts.hi, .int .i64 e.t.tried.lo, .int .i64 e.t.tried.hi, .int .i64 e.t.tons, .int .i64 e.t.highs, .int .i64 e.t.tops, .int .i64 e.t.best, .int .i64 e.left, .bool e.inn, .int .i64 start, .int .i64 gin, .int .i64 gout, .slice la beds.length lc, .slice xa e.scores.length xc, .bool e.won]) := Lib.hid HI2.out.blk
      have y4 : ∀ y : Lat (fun b _ => b = (B + 1) ∨ b = (B + 1 + 1)) wr, y.world.cell? ⟨kx, 4, none⟩ = some (.int .i64 e.t.legs) := fun y => (HBR.out.chg y.chg (by have h := HNK.out; rintro ⟨_, e1 | e1⟩ <;> omega)).cell 4 rfl
      have y5 : ∀ y : Lat (fun b _ => b = (B + 1) ∨ b = (B + 1 + 1)) wr, y.world.cell? ⟨kx, 5, none⟩ = some (.int .i64 e.t.won) := fun y => (HBR.out.chg y.chg (by have h := HNK.out; rintro ⟨_, e1 | e1⟩ <;> omega)).cell 5 rfl
      have y6 : ∀ y : Lat (fun b _ => b = (B + 1) ∨ b = (B + 1 + 1)) wr, y.world.cell? ⟨kx, 6, none⟩ = some (.int .i64 e.t.visits) := fun y => (HBR.out.chg y.chg (by have h := HNK.out; rintro ⟨_, e1 | e1⟩ <;> omega)).cell 6 rfl
      have y7 : ∀ y : Lat (fun b _ => b = (B + 1) ∨ b = (B + 1 + 1)) wr, y.world.cell? ⟨kx, 7, none⟩ = some (.int .i64 e.t.points) := fun y => (HBR.out.chg y.chg (by have h := HNK.out; rintro ⟨_, e1 | e1⟩ <;> omega)).cell 7 rfl
      have y8 : ∀ y : Lat (fun b _ => b = (B + 1) ∨ b = (B + 1 + 1)) wr, y.world.cell? ⟨kx, 8, none⟩ = some (.int .i64 e.t.darts.lo) := fun y => (HBR.out.chg y.chg (by have h := HNK.out; rintro ⟨_, e1 | e1⟩ <;> omega)).cell 8 rfl
      have y9 : ∀ y : Lat (fun b _ => b = (B + 1) ∨ b = (B + 1 + 1)) wr, y.world.cell? ⟨kx, 9, none⟩ = some (.int .i64 e.t.darts.hi) := fun y => (HBR.out.chg y.chg (by have h := HNK.out; rintro ⟨_, e1 | e1⟩ <;> omega)).cell 9 rfl
      have y10 : ∀ y : Lat (fun b _ => b = (B + 1) ∨ b = (B + 1 + 1)) wr, y.world.cell? ⟨kx, 10, none⟩ = some (.int .i64 e.t.tried.lo) := fun y => (HBR.out.chg y.chg (by have h := HNK.out; rintro ⟨_, e1 | e1⟩ <;> omega)).cell 10 rfl
      have y11 : ∀ y : Lat (fun b _ => b = (B + 1) ∨ b = (B + 1 + 1)) wr, y.world.cell? ⟨kx, 11, none⟩ = some (.int .i64 e.t.tried.hi) := fun y => (HBR.out.chg y.chg (by have h := HNK.out; rintro ⟨_, e1 | e1⟩ <;> omega)).cell 11 rfl
      have y12 : ∀ y : Lat (fun b _ => b = (B + 1) ∨ b = (B + 1 + 1)) wr, y.world.cell? ⟨kx, 12, none⟩ = some (.int .i64 e.t.tons) := fun y => (HBR.out.chg y.chg (by have h := HNK.out; rintro ⟨_, e1 | e1⟩ <;> omega)).cell 12 rfl
      have y13 : ∀ y : Lat (fun b _ => b = (B + 1) ∨ b = (B + 1 + 1)) wr, y.world.cell? ⟨kx, 13, none⟩ = some (.int .i64 e.t.highs) := fun y => (HBR.out.chg y.chg (by have h := HNK.out; rintro ⟨_, e1 | e1⟩ <;> omega)).cell 13 rfl
      have y14 : ∀ y : Lat (fun b _ => b = (B + 1) ∨ b = (B + 1 + 1)) wr, y.world.cell? ⟨kx, 14, none⟩ = some (.int .i64 e.t.tops) := fun y => (HBR.out.chg y.chg (by have h := HNK.out; rintro ⟨_, e1 | e1⟩ <;> omega)).cell 14 rfl
      have y15 : ∀ y : Lat (fun b _ => b = (B + 1) ∨ b = (B + 1 + 1)) wr, y.world.cell? ⟨kx, 15, none⟩ = some (.int .i64 e.t.best) := fun y => (HBR.out.chg y.chg (by have h := HNK.out; rintro ⟨_, e1 | e1⟩ <;> omega)).cell 15 rfl
      have y18 : ∀ y : Lat (fun b _ => b = (B + 1) ∨ b = (B + 1 + 1)) wr, y.world.cell? ⟨kx, 18, none⟩ = some (.int .i64 start) := fun y => (HBR.out.chg y.chg (by have h := HNK.out; rintro ⟨_, e1 | e1⟩ <;> omega)).cell 18 rfl
      have y19 : ∀ y : Lat (fun b _ => b = (B + 1) ∨ b = (B + 1 + 1)) wr, y.world.cell? ⟨kx, 19, none⟩ = some (.int .i64 gin) := fun y => (HBR.out.chg y.chg (by have h := HNK.out; rintro ⟨_, e1 | e1⟩ <;> omega)).cell 19 rfl
      have y20 : ∀ y : Lat (fun b _ => b = (B + 1) ∨ b = (B + 1 + 1)) wr, y.world.cell? ⟨kx, 20, none⟩ = some (.int .i64 gout) := fun y => (HBR.out.chg y.chg (by have h := HNK.out; rintro ⟨_, e1 | e1⟩ <;> omega)).cell 20 rfl
      have y21 : ∀ y : Lat (fun b _ => b = (B + 1) ∨ b = (B + 1 + 1)) wr, y.world.cell? ⟨kx, 21, none⟩ = some (.slice la beds.length lc) := fun y => (HBR.out.chg y.chg (by have h := HNK.out; rintro ⟨_, e1 | e1⟩ <;> omega)).cell 21 rfl
      have y22 : ∀ y : Lat (fun b _ => b = (B + 1) ∨ b = (B + 1 + 1)) wr, y.world.cell? ⟨kx, 22, none⟩ = some (.slice xa e.scores.length xc) := fun y => (HBR.out.chg y.chg (by have h := HNK.out; rintro ⟨_, e1 | e1⟩ <;> omega)).cell 22 rfl
      have y23 : ∀ y : Lat (fun b _ => b = (B + 1) ∨ b = (B + 1 + 1)) wr, y.world.cell? ⟨kx, 23, none⟩ = some (.bool e.won) := fun y => (HBR.out.chg y.chg (by have h := HNK.out; rintro ⟨_, e1 | e1⟩ <;> omega)).cell 23 rfl
      have yl := HBR.out.lt
      go_upto_region 14 with fail
      refine wp_region_lat (by kernel_rfl) (fun b _ => b = (B + 1) ∨ b = (B + 1 + 1)) (fun k => (k == 9) || (k == 10)) (RsIs []) (fun L _ W => LstG (B + 1) (B + 1 + 1) #[.int .i64 e.t.legs, .int .i64 e.t.won, .int .i64 e.t.visits, .int .i64 e.t.points, .int .i64 e.t.darts.lo, .int .i64 e.t.darts.hi, .int .i64 e.t.tried.lo, .int .i64 e.t.tried.hi, .int .i64 e.t.tons, .int .i64 e.t.highs, .int .i64 e.t.tops, .int .i64 e.t.best] #[.int .i64 start, .int .i64 gin, .int .i64 gout, .slice la beds.length lc, .slice xa e.scores.length xc, .bool e.won] (L 9) (L 10) W) (by kernel_rfl)
        (fun k hk => by
          simp only [Bool.or_eq_true, beq_iff_eq] at hk
          rcases hk with rfl | rfl <;> decide)
        (fun L L' u w' h hg => by rw [h 9 rfl, h 10 rfl]; exact hg) (fun L u a b h hx => h.ext hx) (rsW []) (fun k _ => rsW_ok _ k) ((LstG.of (HZR.out)).ext (Ext.refl wr).drew) ?_
      intro T hT hne2 u hu
      refine lx_next 9 (by rfl) (by decide) ?_
      dsimp only [List.take, List.drop]
      repeat (go_big_quiet_step (fail))
      refine wpQuiet_nil ?_
      refine lx_loud (by rfl) (by kernel_rfl) ?_ (fun K hK => ?_)
      · intro L w4 hL hd hcl hC hs
        obtain ⟨y, rfl⟩ := hC
        have D10 := hcl.off hL 40 10 (by kernel_rfl)
        rw [hL, D10] at hs
        have HS := Lib.hid hs
        have HD10 := Lib.hid D10
        have r0 := hs.k6.cell 0 (v := .int .i64 0) rfl
        have rf0 := hs.k6.frozen 0
        have r1 := hs.k6.cell 1 (v := .int .i64 0) rfl
        have rf1 := hs.k6.frozen 1
        have r2 := hs.k6.cell 2 (v := .int .i64 0) rfl
        have rf2 := hs.k6.frozen 2
        have r3 := hs.k6.cell 3 (v := .int .i64 0) rfl
        have rf3 := hs.k6.frozen 3
        have r4 := hs.k6.cell 4 (v := .int .i64 0) rfl
        have rf4 := hs.k6.frozen 4
        have r5 := hs.k6.cell 5 (v := .int .i64 0) rfl
        have rf5 := hs.k6.frozen 5
        have r6 := hs.k6.cell 6 (v := .int .i64 0) rfl
        have rf6 := hs.k6.frozen 6
        have r7 := hs.k6.cell 7 (v := .int .i64 0) rfl
        have rf7 := hs.k6.frozen 7
        have r8 := hs.k6.cell 8 (v := .int .i64 0) rfl
        have rf8 := hs.k6.frozen 8
        have r9 := hs.k6.cell 9 (v := .int .i64 0) rfl
        have rf9 := hs.k6.frozen 9
        have r10 := hs.k6.cell 10 (v := .int .i64 0) rfl
        have rf10 := hs.k6.frozen 10
        have r11 := hs.k6.cell 11 (v := .int .i64 0) rfl
        have rf11 := hs.k6.frozen 11
        have rl := hs.k6.lt
        clear hs hL hd hcl D10
        go_wp2
        have hc := twl_chg (· = B + 1) y.world (b := B + 1) rfl (.int .i64 e.t.legs) (.int .i64 e.t.won) (.int .i64 e.t.visits) (.int .i64 e.t.points) (.int .i64 e.t.darts.lo) (.int .i64 e.t.darts.hi) (.int .i64 e.t.tried.lo) (.int .i64 e.t.tried.hi) (.int .i64 e.t.tons) (.int .i64 e.t.highs) (.int .i64 e.t.tops) (.int .i64 e.t.best)
        exact ⟨trivial, ⟨y.chgd hc (fun b hb => .inr fun _ => .inl hb), rfl⟩, by rw [show upd L 9 9 = true from rfl, show upd L 9 10 = L 10 from rfl, HD10.out]; exact ⟨twl_set HS.out.k6 (.int .i64 e.t.legs) (.int .i64 e.t.won) (.int .i64 e.t.visits) (.int .i64 e.t.points) (.int .i64 e.t.darts.lo) (.int .i64 e.t.darts.hi) (.int .i64 e.t.tried.lo) (.int .i64 e.t.tried.hi) (.int .i64 e.t.tons) (.int .i64 e.t.highs) (.int .i64 e.t.tops) (.int .i64 e.t.best), HS.out.k7.chg hc (fun e => HS.out.ne e.symm), HS.out.ne⟩⟩
      go_simp
      with_reducible refine hK _ ?_
      clear hK K
      refine lx_loud (by rfl) (by kernel_rfl) ?_ (fun K hK => ?_)
      · intro L w4 hL hd hcl hC hs
        obtain ⟨y, rfl⟩ := hC
        have D9 := hd 9 (by kernel_rfl)
        rw [hL, D9] at hs
        have HS := Lib.hid hs
        have HD9 := Lib.hid D9
        have r0 := hs.k7.cell 0 (v := .int .i64 0) rfl
        have rf0 := hs.k7.frozen 0
        have r1 := hs.k7.cell 1 (v := .int .i64 0) rfl
        have rf1 := hs.k7.frozen 1
        have r2 := hs.k7.cell 2 (v := .int .i64 0) rfl
        have rf2 := hs.k7.frozen 2
        have r3 := hs.k7.cell 3 (v := .slice none 0 0) rfl
        have rf3 := hs.k7.frozen 3
        have r4 := hs.k7.cell 4 (v := .slice none 0 0) rfl
        have rf4 := hs.k7.frozen 4
        have r5 := hs.k7.cell 5 (v := .bool false) rfl
        have rf5 := hs.k7.frozen 5
        have rl := hs.k7.lt
        clear hs hL hd hcl D9
        go_wp2
        have hc := six_chg (· = B + 1 + 1) y.world (b := B + 1 + 1) rfl (.int .i64 start) (.int .i64 gin) (.int .i64 gout) (.slice la beds.length lc) (.slice xa e.scores.length xc) (.bool e.won)
        exact ⟨trivial, ⟨y.chgd hc (fun b hb => .inr fun _ => .inr hb), rfl⟩, by rw [show upd L 10 10 = true from rfl, show upd L 10 9 = L 9 from rfl, HD9.out]; exact ⟨HS.out.k6.chg hc HS.out.ne, six_set HS.out.k7 (.int .i64 start) (.int .i64 gin) (.int .i64 gout) (.slice la beds.length lc) (.slice xa e.scores.length xc) (.bool e.won), HS.out.ne⟩⟩
      go_simp
      with_reducible refine hK _ ?_
      clear hK K
      refine lx_next 2 (by rfl) (by decide) ?_
      dsimp only [List.take, List.drop]
      repeat (go_big_quiet_step (fail))
      refine wpQuiet_nil ?_
      refine lx_nil ?_
      intro y hs
      have HS9 : Hid (LstG (B + 1) (B + 1 + 1) #[.int .i64 e.t.legs, .int .i64 e.t.won, .int .i64 e.t.visits, .int .i64 e.t.points, .int .i64 e.t.darts.lo, .int .i64 e.t.darts.hi, .int .i64 e.t.tried.lo, .int .i64 e.t.tried.hi, .int .i64 e.t.tons, .int .i64 e.t.highs, .int .i64 e.t.tops, .int .i64 e.t.best] #[.int .i64 start, .int .i64 gin, .int .i64 gout, .slice la beds.length lc, .slice xa e.scores.length xc, .bool e.won] true true y.world) := Lib.hid hs
      have HC9 : Hid (Chg (fun b => b = (B + 1) ∨ b = (B + 1 + 1)) wr y.world) := Lib.hid (y.chg.mono (by rintro q - ⟨_, e⟩; exact e))
      clear hs hu hT hne2 y4 y5 y6 y7 y8 y9 y10 y11 y12 y13 y14 y15 y18 y19 y20 y21 y22 y23 yl
      generalize y.world = w9 at *
      clear y
      go_wp2
      have q0 := HS9.out.k6.cell 0 (v := .int .i64 e.t.legs) rfl
      have q1 := HS9.out.k6.cell 1 (v := .int .i64 e.t.won) rfl
      have q2 := HS9.out.k6.cell 2 (v := .int .i64 e.t.visits) rfl
      have q3 := HS9.out.k6.cell 3 (v := .int .i64 e.t.points) rfl
      have q4 := HS9.out.k6.cell 4 (v := .int .i64 e.t.darts.lo) rfl
      have q5 := HS9.out.k6.cell 5 (v := .int .i64 e.t.darts.hi) rfl
      have q6 := HS9.out.k6.cell 6 (v := .int .i64 e.t.tried.lo) rfl
      have q7 := HS9.out.k6.cell 7 (v := .int .i64 e.t.tried.hi) rfl
      have q8 := HS9.out.k6.cell 8 (v := .int .i64 e.t.tons) rfl
      have q9 := HS9.out.k6.cell 9 (v := .int .i64 e.t.highs) rfl
      have q10 := HS9.out.k6.cell 10 (v := .int .i64 e.t.tops) rfl
      have q11 := HS9.out.k6.cell 11 (v := .int .i64 e.t.best) rfl
      have p0 := HS9.out.k7.cell 0 (v := .int .i64 start) rfl
      have p1 := HS9.out.k7.cell 1 (v := .int .i64 gin) rfl
      have p2 := HS9.out.k7.cell 2 (v := .int .i64 gout) rfl
      have p3 := HS9.out.k7.cell 3 (v := .slice la beds.length lc) rfl
      have p4 := HS9.out.k7.cell 4 (v := .slice xa e.scores.length xc) rfl
      have p5 := HS9.out.k7.cell 5 (v := .bool e.won) rfl
      refine bodyPost_ret (v := .tuple #[.agg #[.int .i64 e.t.legs, .int .i64 e.t.won, .int .i64 e.t.visits, .int .i64 e.t.points, .int .i64 e.t.darts.lo, .int .i64 e.t.darts.hi, .int .i64 e.t.tried.lo, .int .i64 e.t.tried.hi, .int .i64 e.t.tons, .int .i64 e.t.highs, .int .i64 e.t.tops, .int .i64 e.t.best], .agg #[.int .i64 start, .int .i64 gin, .int .i64 gout, .slice la beds.length lc, .slice xa e.scores.length xc, .bool e.won], .int .i64 0, .int .i64 0]) (by simp [results, Try.results30, go_sem, q0, q1, q2, q3, q4, q5, q6, q7, q8, q9, q10, q11, p0, p1, p2, p3, p4, p5]) rfl ⟨?_, ?_⟩
      · rw [HE9.out]
        refine ⟨la, lc, xa, xc, rfl, ?_, ?_⟩
        · refine own_mono (own_chg HLR.out HC9.out (fun q hq e => ?_)) HNK.out.2.2.2.2.2
          have h1 := (World.ownsRow.lt HLR.out q hq).1
          have h2 := HNK.out
          rcases e with e | e <;> omega
        · refine own_mono (own_chg HI2.out.own HC9.out (fun q hq e => ?_)) (by have := HNK.out; omega)
          have h1 := (World.ownsRow.lt HI2.out.own q hq).1
          have h2 := HNK.out
          rcases e with e | e <;> omega
      · exact Chg.to_ext (Ext.refl w) (((HWR.out.mono (T := fun q => w.heap.size ≤ q) (fun _ _ h => h.elim))).trans (HC9.out.mono (fun q _ h => by have := HBB.out; show w.heap.size ≤ q; rcases h with h | h <;> omega))) (fun _ h => h)
end Go.Proofs.Ytmopadnkjlodnaa
