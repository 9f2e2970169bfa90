/-
  The laws' package of chapter 6: equal totals, equal counts; unchanged, for legs that hold the same.
-/
import Derived.Test.YtmopadnkjlodnaaRhd
import Derived.Test.YtmopadnkjlodnaaMad
import Derived.Test.YtmopadnkjlodnaaMsp
import Derived.Test.YtmopadnkjlodnaaLmb
import Derived.ChangeKeysEq
namespace Go.Proofs.Ytmopadnkjlodnaa
open Go.RowKit Go.BigFrame
attribute [local go_sem] Later.cell Later.frozen
/-- A readable slice of integers, of an argument. -/
structure BedA (w : World) (a : Option Addr) (c : Nat) (xs : List Int) : Prop where
  cells : CellsAt w .i64 a xs
  nil : a = none → xs.length = 0 ∧ c = 0
  cap : xs.length ≤ c ∧ c ≤ maxLen
  i64 : ∀ x ∈ xs, I64 x
theorem BedA.ext {w w' : World} {a : Option Addr} {c : Nat} {xs : List Int} (h : BedA w a c xs) (hx : Ext w w') : BedA w' a c xs := ⟨h.cells.ext hx, h.nil, h.cap, h.i64⟩
theorem BedA.own {w : World} {base : Nat} {a : Option Addr} {c : Nat} {xs : List Int} (h : OwnD w base (.slice a xs.length c) xs) (hi : ∀ x ∈ xs, I64 x) : BedA w a c xs := by
  obtain ⟨a', c', e, h1, h2, h3, h4⟩ := (h.rd (S := S0) (fun _ _ h => h)).cells
  cases e
  exact ⟨h1, h4, ⟨h2, h3⟩, hi⟩
theorem BedA.ownI {w : World} {base : Nat} {a : Option Addr} {c : Nat} {xs : List Int} (h : OwnI w base (.slice a xs.length c) xs) (hi : ∀ x ∈ xs, I64 x) : BedA w a c xs := by
  obtain ⟨a', c', e, h1, h2, h3, h4⟩ := (RdI.of_own h (S := S0) (fun _ _ h => h)).cells
  cases e
  exact ⟨h1, h4, ⟨h2, h3⟩, hi⟩
/-- Rows of them. -/
def VsA (w : World) (va : Option Addr) (vs : List (List Int)) : Prop := ∀ i (h : i < vs.length), ∃ b o a c, va = some ⟨b, o, none⟩ ∧ w.cell? ⟨b, o + i, none⟩ = some (.slice a vs[i].length c) ∧ BedA w a c vs[i]
theorem VsA.ext {w w' : World} {va : Option Addr} {vs : List (List Int)} (h : VsA w va vs) (hx : Ext w w') : VsA w' va vs := fun i hi => let ⟨b, o, a, c, h1, h2, h3⟩ := h i hi; ⟨b, o, a, c, h1, hx.cell h2, h3.ext hx⟩
theorem VsA.vss {w : World} {va : Option Addr} {vs : List (List Int)} (h : VsA w va vs) (hl : ∀ v ∈ vs, v.length ≤ 1000) : VssAt w va vs := fun i hi => let ⟨b, o, a, c, h1, h2, h3⟩ := h i hi; ⟨b, o, a, c, h1, h2, h3.cells, h3.cap, h3.i64, hl _ (List.getElem_mem hi)⟩
theorem vss_one {w : World} {a : Option Addr} {c n : Nat} {xs : List Int} (t : TypeId) (hn : n = w.heap.size) (h : BedA w a c xs) (hl : xs.length ≤ 1000) : VssAt (w.alloc (.cells #[.slice a xs.length c] t)) (some ⟨n, 0, none⟩) [xs] := fun i hi => by
  subst hn
  obtain rfl : i = 0 := by simpa using hi
  have h2 := h.ext ((Ext.refl w).alloc (.cells #[.slice a xs.length c] t))
  exact ⟨_, _, a, c, rfl, (Blk.new w _ _).cell 0 rfl, h2.cells, h2.cap, h2.i64, hl⟩
theorem ways_vsa {w : World} {base : Nat} {v : Value} {ws : List (List Int)} (h : WaysAt w base v ws) (hi : ∀ x ∈ ws, ∀ y ∈ x, I64 y) : ∃ a c, v = .slice a ws.length c ∧ VsA w a ws := by
  obtain ⟨vals, h1, h2, h3⟩ := h
  have hc := fun g (hg : v.ownBlock = some g) => World.ownsRow.cells (w := w) (g := g) h1 hg
  obtain ⟨h4, ⟨e, h5⟩ | ⟨g, cap, cur, e, h5, h6, h7⟩⟩ := h1
  · have : ws = [] := List.length_eq_zero_iff.1 h5
    subst this
    exact ⟨none, 0, e, fun i hi => absurd hi (by simp)⟩
  · refine ⟨some ⟨g, 0, none⟩, cap, e, fun i hlt => ?_⟩
    obtain ⟨a, c, h8, h9⟩ := h3 i hlt
    refine ⟨g, 0, a, c, rfl, ?_, BedA.own h9 (hi _ (List.getElem_mem hlt))⟩
    have := hc g (by rw [e]; rfl) i _ h8
    rwa [addr_add] at this
theorem eqCnt (a b c : Int) (w : World) : (Op.equalIn 10000 24 (.agg #[.int .i64 a, .int .i64 b, .int .i64 c]) (.agg #[.int .i64 a, .int .i64 b, .int .i64 c])).run Try.prog w = .ok true w := by
  have u3 := Try.underlying3
  have a3 := Try.isAgg3
  have z3 := Try.sizeOf3
  have u4 := Try.underlying22
  have a4 := Try.isAgg22
  have z4 := Try.sizeOf22
  have hS : Try.prog.underlying 24 = some (.struct (Try.prog.fieldsOf 24)) := by kernel_rfl
  rw [show (10000 : Nat) = 9999 + 1 from rfl, run_equalIn_struct w 9999 24 _ _ hS (by kernel_rfl)]
  simp only [Program.fieldsOf, Try.underlying24]
  go_simp
theorem eqSpn (d : Nat) (a b : Int) (w : World) : (Op.equalIn (d + 2) 43 (.agg #[.int .i64 a, .int .i64 b]) (.agg #[.int .i64 a, .int .i64 b])).run Try.prog w = .ok true w := by
  have u3 := Try.underlying3
  have a3 := Try.isAgg3
  have z3 := Try.sizeOf3
  have hS : Try.prog.underlying 43 = some (.struct (Try.prog.fieldsOf 43)) := by kernel_rfl
  rw [run_equalIn_struct w (d + 1) 43 _ _ hS (by kernel_rfl)]
  simp only [Program.fieldsOf, Try.underlying43]
  go_simp
set_option maxHeartbeats 2000000 in
theorem eqTot (a b c d e f g h i j k l : Int) (w : World) : (Op.equalIn 10000 55 (.agg #[.int .i64 a, .int .i64 b, .int .i64 c, .int .i64 d, .int .i64 e, .int .i64 f, .int .i64 g, .int .i64 h, .int .i64 i, .int .i64 j, .int .i64 k, .int .i64 l]) (.agg #[.int .i64 a, .int .i64 b, .int .i64 c, .int .i64 d, .int .i64 e, .int .i64 f, .int .i64 g, .int .i64 h, .int .i64 i, .int .i64 j, .int .i64 k, .int .i64 l])).run Try.prog w = .ok true w := by
  have u3 := Try.underlying3
  have a3 := Try.isAgg3
  have z3 := Try.sizeOf3
  have ay := Try.isAgg43
  have zs := Try.sizeOf43
  have hS : Try.prog.underlying 55 = some (.struct (Try.prog.fieldsOf 55)) := by kernel_rfl
  have e1 := fun W => eqSpn 9997 e f W
  have e2 := fun W => eqSpn 9997 g h W
  rw [show (10000 : Nat) = 9999 + 1 from rfl, run_equalIn_struct w 9999 55 _ _ hS (by kernel_rfl)]
  simp only [Program.fieldsOf, Try.underlying55]
  go_simp
attribute [local go_sem] eqCnt
set_option maxRecDepth 100000 in
set_option maxHeartbeats 2000000 in
/-- Legs that hold the same are unchanged. -/
theorem law_unchanged (start gin gout : Int) (won : Bool) (beds scores : List Int) (a1 a2 s1 s2 : Option Addr) (c1 c2 d1 d2 : Nat) (w : World) (h1 : BedA w a1 c1 beds) (h2 : BedA w a2 c2 beds) (hs1 : CellsAt w .i64 s1 scores) (hs2 : CellsAt w .i64 s2 scores) (hl : beds.length ≤ 1000) (hsl : scores.length ≤ 1000000) :
    Calls Try.prog 18 #[.agg #[.int .i64 start, .int .i64 gin, .int .i64 gout, .slice a1 beds.length c1, .slice s1 scores.length d1, .bool won], .agg #[.int .i64 start, .int .i64 gin, .int .i64 gout, .slice a2 beds.length c2, .slice s2 scores.length d2, .bool won]] w fun e w' => e = .returned (.bool true) ∧ Ext w w' := by
  have HI := Lib.hid (fun W (hx : Ext w W) => ref_Ints scores scores s1 s2 d1 d2 W (hs1.ext hx) (hs2.ext hx) hsl)
  rw [show decide (scores = scores) = true from decide_eq_true rfl] at HI
  have H1 := Lib.hid h1
  have H2 := Lib.hid h2
  have HL := Lib.hid hl
  clear h1 h2 hs1 hs2 hl hsl
  go_enter Try.func18, Try.ntmps18
  go_upto_region 1 with fail
  generalize hw1 : World.alloc (World.alloc w _) _ = w1
  obtain ⟨B, hBB⟩ : ∃ y, y = w.heap.size := ⟨_, rfl⟩
  rw [← hBB]
  have HX1 : Hid (Ext w w1) := Lib.hid (by rw [← hw1]; exact ((Ext.refl w).alloc _).alloc _)
  have KA : Hid (Blk w1 B #[.int .i64 start, .int .i64 gin, .int .i64 gout, .slice a1 beds.length c1, .slice s1 scores.length d1, .bool won]) := Lib.hid (by rw [← hw1, hBB]; exact (Blk.new w _ _).alloc _)
  have KB : Hid (Blk w1 (B + 1) #[.int .i64 start, .int .i64 gin, .int .i64 gout, .slice a2 beds.length c2, .slice s2 scores.length d2, .bool won]) := Lib.hid (by rw [← hw1]; exact Blk.at _ (by simp [hBB]))
  clear hw1 hBB
  have a0 := KA.out.cell 0 (v := .int .i64 start) rfl
  have a1' := KA.out.cell 1 (v := .int .i64 gin) rfl
  have a2' := KA.out.cell 2 (v := .int .i64 gout) rfl
  have a4 := KA.out.cell 4 (v := .slice s1 scores.length d1) rfl
  have a5 := KA.out.cell 5 (v := .bool won) rfl
  have al := KA.out.lt
  have b0 := KB.out.cell 0 (v := .int .i64 start) rfl
  have b1 := KB.out.cell 1 (v := .int .i64 gin) rfl
  have b2 := KB.out.cell 2 (v := .int .i64 gout) rfl
  have b4 := KB.out.cell 4 (v := .slice s2 scores.length d2) rfl
  have b5 := KB.out.cell 5 (v := .bool won) rfl
  have bl := KB.out.lt
  go_wp2_with fail
  refine (HI.out _ HX1.out).mono ?_
  rintro e w2 ⟨rfl, hx2⟩
  have HX2 := Lib.hid (HX1.out.trans hx2)
  have a3 := (KA.out.ext hx2).cell 3 (v := .slice a1 beds.length c1) rfl
  have b3 := (KB.out.ext hx2).cell 3 (v := .slice a2 beds.length c2) rfl
  have al2 := (KA.out.ext hx2).lt
  have bl2 := (KB.out.ext hx2).lt
  clear a0 a1' a2' a4 a5 al b0 b1 b2 b4 b5 bl hx2
  go_wp2_with fail
  have hv1 := (vss_one 25 rfl (H1.out.ext HX2.out) HL.out).ext ((Ext.refl _).alloc (.cells #[.slice a2 beds.length c2] 25))
  have hv2 := vss_one (w := w2.alloc (.cells #[.slice a1 beds.length c1] 25)) (n := w2.heap.size + 1) 25 (by simp) ((H2.out.ext HX2.out).ext ((Ext.refl _).alloc _)) HL.out
  have hsm := ref_Same [beds] [beds] _ _ 1 1 _ hv1 hv2 (by simp)
  rw [show decide ([beds] = [beds]) = true from decide_eq_true rfl] at hsm
  refine hsm.mono ?_
  rintro e w3 ⟨rfl, hx3⟩
  have HX3 := Lib.hid (((HX2.out.alloc _).alloc _).trans hx3)
  clear hx3 hv1 hv2 a3 b3 al2 bl2
  go_wp2
  go_ret
  exact ⟨rfl, HX3.out⟩
end Go.Proofs.Ytmopadnkjlodnaa
