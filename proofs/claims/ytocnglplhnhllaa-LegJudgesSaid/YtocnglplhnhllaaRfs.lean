/-
  The reference of chapter 3: a leg while it is stepped through; over.
-/
import Derived.Test.YtocnglplhnhllaaRfr
import Derived.Test.YtocnglplhnhllaaGmp
import Derived.Deep.MidRow
namespace Go.Proofs.Ytocnglplhnhllaa
open Go.RowKit Go.BigFrame
attribute [local go_sem] Later.cell Later.frozen
/-- The reference's leg, as a value's cells. -/
def legC (lv dv iv : Value) (next round : Int) (ov : Bool) (wv ev : Value) (l0 l1 l2 l3 l4 l5 l6 l7 done : Int) : Array Value :=
  #[lv, dv, iv, .int .i64 next, .int .i64 round, .bool ov, wv, ev, .int .i64 l0, .int .i64 l1, .int .i64 l2, .int .i64 l3, .int .i64 l4, .int .i64 l5, .int .i64 l6, .int .i64 l7, .int .i64 done]
def legZ : Array Value := legC (.slice none 0 0) (.slice none 0 0) (.slice none 0 0) 0 0 false (.slice none 0 0) (.slice none 0 0) 0 0 0 0 0 0 0 0 0
/-- The numbers of those players that are in a list. -/
def pickF (ps ns : List Int) (x : Int) : Option Int := if ps.any (· == x) = true then leftF ns ns.length x else none
theorem pickF_dom {ps ns : List Int} {x c : Int} (h : pickF ps ns x = some c) : 0 ≤ x ∧ x < ns.length := by
  unfold pickF leftF at h
  split at h
  · split at h
    · assumption
    · cases h
  · cases h
theorem pickF_mem {ps ns : List Int} {x c : Int} (h : pickF ps ns x = some c) : c ∈ ns ∧ x ∈ ps := by
  unfold pickF leftF at h
  split at h
  · rename_i ha
    split at h
    · obtain ⟨y, hy, e⟩ := List.any_eq_true.1 ha
      obtain rfl : y = x := by simpa using e
      exact ⟨List.mem_of_getElem? h, hy⟩
    · cases h
  · cases h
theorem pickF_of {ps ns : List Int} {x : Int} (hx : x ∈ ps) (h0 : 0 ≤ x ∧ x < ns.length) : pickF ps ns x = some (ns[x.toNat]'(by omega)) := by
  unfold pickF leftF
  rw [if_pos (List.any_eq_true.2 ⟨x, hx, by simp⟩), if_pos h0]
  exact List.getElem?_eq_getElem _
theorem Blk.range {w : World} {b : Nat} {cs : Array Value} (h : Blk w b cs) : w.rangeAt b 0 cs.toList := fun j v hv => by
  rw [Nat.zero_add]; exact h.cell j (by simpa using hv)
theorem leg_row : (Try.prog.underlying 112).map TypeDesc.isRow = some true := by kernel_rfl
theorem leg_size : (Try.prog.info? 112).map (·.size) = some 17 := by kernel_rfl
theorem load_leg {b : Nat} {cs : Array Value} {w : World} (h : Blk w b cs) (hs : cs.size = 17) : (loadVar 112 ⟨b, 0, none⟩).run Try.prog w = .ok (.agg cs) w := by
  have hr := leg_row
  cases hu : Try.prog.underlying 112 with
  | none => rw [hu] at hr; cases hr
  | some d =>
    rw [hu] at hr
    have := run_loadVar_mid (P := Try.prog) w b 0 112 cs.toList d h.range hu (by simpa using hr) (by rw [leg_size]; simp [hs])
    simpa using this
theorem results_leg {fn : Func} {s : Nat} (hr : fn.results = #[.cell s 112]) {tmps : Array Value} {b : Nat} (ht : tmps.getD s undef = .pointer (some ⟨b, 0, none⟩)) {w : World} {cs : Array Value} (h : Blk w b cs) (hs : cs.size = 17) :
    (results fn tmps).run Try.prog w = .ok (.agg cs) w := by
  have hl := load_leg h hs
  have ht' : tmps[s]?.getD undef = .pointer (some ⟨b, 0, none⟩) := by simpa using ht
  unfold results
  rw [hr]
  simp [asAddr, ht', hl]
theorem results_leg3 {fn : Func} {s t u : Nat} (hr : fn.results = #[.cell s 112, .tmp t, .tmp u]) {tmps : Array Value} {b : Nat} (ht : tmps.getD s undef = .pointer (some ⟨b, 0, none⟩)) {w : World} {cs : Array Value} (h : Blk w b cs) (hs : cs.size = 17) {x y : Value} (hx : tmps.getD t undef = x) (hy : tmps.getD u undef = y) :
    (results fn tmps).run Try.prog w = .ok (.tuple #[.agg cs, x, y]) w := by
  have hl := load_leg h hs
  have ht' : tmps[s]?.getD undef = .pointer (some ⟨b, 0, none⟩) := by simpa using ht
  have hx' : tmps[t]?.getD undef = x := by simpa using hx
  have hy' : tmps[u]?.getD undef = y := by simpa using hy
  unfold results
  rw [hr]
  simp [asAddr, ht', hl, hx', hy']
theorem blk17 {w : World} {b : Nat} {v0 v1 v2 v3 v4 v5 v6 v7 v8 v9 v10 v11 v12 v13 v14 v15 v16 : Value} (h : Blk w b #[v0, v1, v2, v3, v4, v5, v6, v7, v8, v9, v10, v11, v12, v13, v14, v15, v16]) :
    (w.cell? ⟨b, 0, none⟩ = some v0 ∧ w.cell? ⟨b, 1, none⟩ = some v1 ∧ w.cell? ⟨b, 2, none⟩ = some v2 ∧ w.cell? ⟨b, 3, none⟩ = some v3 ∧ w.cell? ⟨b, 4, none⟩ = some v4 ∧ w.cell? ⟨b, 5, none⟩ = some v5 ∧ w.cell? ⟨b, 6, none⟩ = some v6 ∧ w.cell? ⟨b, 7, none⟩ = some v7 ∧ w.cell? ⟨b, 8, none⟩ = some v8) ∧
    (w.cell? ⟨b, 9, none⟩ = some v9 ∧ w.cell? ⟨b, 10, none⟩ = some v10 ∧ w.cell? ⟨b, 11, none⟩ = some v11 ∧ w.cell? ⟨b, 12, none⟩ = some v12 ∧ w.cell? ⟨b, 13, none⟩ = some v13 ∧ w.cell? ⟨b, 14, none⟩ = some v14 ∧ w.cell? ⟨b, 15, none⟩ = some v15 ∧ w.cell? ⟨b, 16, none⟩ = some v16) :=
  ⟨⟨h.cell 0 rfl, h.cell 1 rfl, h.cell 2 rfl, h.cell 3 rfl, h.cell 4 rfl, h.cell 5 rfl, h.cell 6 rfl, h.cell 7 rfl, h.cell 8 rfl⟩, h.cell 9 rfl, h.cell 10 rfl, h.cell 11 rfl, h.cell 12 rfl, h.cell 13 rfl, h.cell 14 rfl, h.cell 15 rfl, h.cell 16 rfl⟩
theorem frz17 {w : World} {b : Nat} {cs : Array Value} (h : Blk w b cs) :
    (w.frozen? ⟨b, 0, none⟩ = false ∧ w.frozen? ⟨b, 1, none⟩ = false ∧ w.frozen? ⟨b, 2, none⟩ = false ∧ w.frozen? ⟨b, 3, none⟩ = false ∧ w.frozen? ⟨b, 4, none⟩ = false ∧ w.frozen? ⟨b, 5, none⟩ = false ∧ w.frozen? ⟨b, 6, none⟩ = false ∧ w.frozen? ⟨b, 7, none⟩ = false ∧ w.frozen? ⟨b, 8, none⟩ = false) ∧
    (w.frozen? ⟨b, 9, none⟩ = false ∧ w.frozen? ⟨b, 10, none⟩ = false ∧ w.frozen? ⟨b, 11, none⟩ = false ∧ w.frozen? ⟨b, 12, none⟩ = false ∧ w.frozen? ⟨b, 13, none⟩ = false ∧ w.frozen? ⟨b, 14, none⟩ = false ∧ w.frozen? ⟨b, 15, none⟩ = false ∧ w.frozen? ⟨b, 16, none⟩ = false) :=
  ⟨⟨h.frozen 0, h.frozen 1, h.frozen 2, h.frozen 3, h.frozen 4, h.frozen 5, h.frozen 6, h.frozen 7, h.frozen 8⟩, h.frozen 9, h.frozen 10, h.frozen 11, h.frozen 12, h.frozen 13, h.frozen 14, h.frozen 15, h.frozen 16⟩
theorem set17 {w : World} {b : Nat} {v0 v1 v2 v3 v4 v5 v6 v7 v8 v9 v10 v11 v12 v13 v14 v15 v16 : Value} (h : Blk w b #[v0, v1, v2, v3, v4, v5, v6, v7, v8, v9, v10, v11, v12, v13, v14, v15, v16]) (x0 x1 x2 x3 x4 x5 x6 x7 x8 x9 x10 x11 x12 x13 x14 x15 x16 : Value) :
    Blk (((((((((((((((((w.setCell ⟨b, 0, none⟩ x0).setCell ⟨b, 1, none⟩ x1).setCell ⟨b, 2, none⟩ x2).setCell ⟨b, 3, none⟩ x3).setCell ⟨b, 4, none⟩ x4).setCell ⟨b, 5, none⟩ x5).setCell ⟨b, 6, none⟩ x6).setCell ⟨b, 7, none⟩ x7).setCell ⟨b, 8, none⟩ x8).setCell ⟨b, 9, none⟩ x9).setCell ⟨b, 10, none⟩ x10).setCell ⟨b, 11, none⟩ x11).setCell ⟨b, 12, none⟩ x12).setCell ⟨b, 13, none⟩ x13).setCell ⟨b, 14, none⟩ x14).setCell ⟨b, 15, none⟩ x15).setCell ⟨b, 16, none⟩ x16) b #[x0, x1, x2, x3, x4, x5, x6, x7, x8, x9, x10, x11, x12, x13, x14, x15, x16] := by
  have h0 : Blk _ b #[x0, v1, v2, v3, v4, v5, v6, v7, v8, v9, v10, v11, v12, v13, v14, v15, v16] := h.set 0 x0
  have h1 : Blk _ b #[x0, x1, v2, v3, v4, v5, v6, v7, v8, v9, v10, v11, v12, v13, v14, v15, v16] := h0.set 1 x1
  have h2 : Blk _ b #[x0, x1, x2, v3, v4, v5, v6, v7, v8, v9, v10, v11, v12, v13, v14, v15, v16] := h1.set 2 x2
  have h3 : Blk _ b #[x0, x1, x2, x3, v4, v5, v6, v7, v8, v9, v10, v11, v12, v13, v14, v15, v16] := h2.set 3 x3
  have h4 : Blk _ b #[x0, x1, x2, x3, x4, v5, v6, v7, v8, v9, v10, v11, v12, v13, v14, v15, v16] := h3.set 4 x4
  have h5 : Blk _ b #[x0, x1, x2, x3, x4, x5, v6, v7, v8, v9, v10, v11, v12, v13, v14, v15, v16] := h4.set 5 x5
  have h6 : Blk _ b #[x0, x1, x2, x3, x4, x5, x6, v7, v8, v9, v10, v11, v12, v13, v14, v15, v16] := h5.set 6 x6
  have h7 : Blk _ b #[x0, x1, x2, x3, x4, x5, x6, x7, v8, v9, v10, v11, v12, v13, v14, v15, v16] := h6.set 7 x7
  have h8 : Blk _ b #[x0, x1, x2, x3, x4, x5, x6, x7, x8, v9, v10, v11, v12, v13, v14, v15, v16] := h7.set 8 x8
  have h9 : Blk _ b #[x0, x1, x2, x3, x4, x5, x6, x7, x8, x9, v10, v11, v12, v13, v14, v15, v16] := h8.set 9 x9
  have h10 : Blk _ b #[x0, x1, x2, x3, x4, x5, x6, x7, x8, x9, x10, v11, v12, v13, v14, v15, v16] := h9.set 10 x10
  have h11 : Blk _ b #[x0, x1, x2, x3, x4, x5, x6, x7, x8, x9, x10, x11, v12, v13, v14, v15, v16] := h10.set 11 x11
  have h12 : Blk _ b #[x0, x1, x2, x3, x4, x5, x6, x7, x8, x9, x10, x11, x12, v13, v14, v15, v16] := h11.set 12 x12
  have h13 : Blk _ b #[x0, x1, x2, x3, x4, x5, x6, x7, x8, x9, x10, x11, x12, x13, v14, v15, v16] := h12.set 13 x13
  have h14 : Blk _ b #[x0, x1, x2, x3, x4, x5, x6, x7, x8, x9, x10, x11, x12, x13, x14, v15, v16] := h13.set 14 x14
  have h15 : Blk _ b #[x0, x1, x2, x3, x4, x5, x6, x7, x8, x9, x10, x11, x12, x13, x14, x15, v16] := h14.set 15 x15
  have h16 : Blk _ b #[x0, x1, x2, x3, x4, x5, x6, x7, x8, x9, x10, x11, x12, x13, x14, x15, x16] := h15.set 16 x16
  exact h16
theorem chg17 (S : Nat → Prop) (w : World) {b : Nat} (hb : S b) (x0 x1 x2 x3 x4 x5 x6 x7 x8 x9 x10 x11 x12 x13 x14 x15 x16 : Value) :
    Chg S w (((((((((((((((((w.setCell ⟨b, 0, none⟩ x0).setCell ⟨b, 1, none⟩ x1).setCell ⟨b, 2, none⟩ x2).setCell ⟨b, 3, none⟩ x3).setCell ⟨b, 4, none⟩ x4).setCell ⟨b, 5, none⟩ x5).setCell ⟨b, 6, none⟩ x6).setCell ⟨b, 7, none⟩ x7).setCell ⟨b, 8, none⟩ x8).setCell ⟨b, 9, none⟩ x9).setCell ⟨b, 10, none⟩ x10).setCell ⟨b, 11, none⟩ x11).setCell ⟨b, 12, none⟩ x12).setCell ⟨b, 13, none⟩ x13).setCell ⟨b, 14, none⟩ x14).setCell ⟨b, 15, none⟩ x15).setCell ⟨b, 16, none⟩ x16) := ((((((((((((((((((Chg.refl S w).setCell (.inr hb) x0).setCell (.inr hb) x1).setCell (.inr hb) x2).setCell (.inr hb) x3).setCell (.inr hb) x4).setCell (.inr hb) x5).setCell (.inr hb) x6).setCell (.inr hb) x7).setCell (.inr hb) x8).setCell (.inr hb) x9).setCell (.inr hb) x10).setCell (.inr hb) x11).setCell (.inr hb) x12).setCell (.inr hb) x13).setCell (.inr hb) x14).setCell (.inr hb) x15).setCell (.inr hb) x16)
section
variable {w : World} {b : Nat} {lv dv iv : Value} {next round : Int} {ov : Bool} {wv ev : Value} {l0 l1 l2 l3 l4 l5 l6 l7 done : Int}
theorem legC_over (h : Blk w b (legC lv dv iv next round ov wv ev l0 l1 l2 l3 l4 l5 l6 l7 done)) (x : Bool) : Blk (w.setCell ⟨b, 5, none⟩ (.bool x)) b (legC lv dv iv next round x wv ev l0 l1 l2 l3 l4 l5 l6 l7 done) := h.set 5 (.bool x)
theorem legC_next (h : Blk w b (legC lv dv iv next round ov wv ev l0 l1 l2 l3 l4 l5 l6 l7 done)) (x : Int) : Blk (w.setCell ⟨b, 3, none⟩ (.int .i64 x)) b (legC lv dv iv x round ov wv ev l0 l1 l2 l3 l4 l5 l6 l7 done) := h.set 3 (.int .i64 x)
theorem legC_win (h : Blk w b (legC lv dv iv next round ov wv ev l0 l1 l2 l3 l4 l5 l6 l7 done)) (x : Value) : Blk (w.setCell ⟨b, 6, none⟩ x) b (legC lv dv iv next round ov x ev l0 l1 l2 l3 l4 l5 l6 l7 done) := h.set 6 x
theorem legC_round (h : Blk w b (legC lv dv iv next round ov wv ev l0 l1 l2 l3 l4 l5 l6 l7 done)) (x : Int) : Blk (w.setCell ⟨b, 4, none⟩ (.int .i64 x)) b (legC lv dv iv next x ov wv ev l0 l1 l2 l3 l4 l5 l6 l7 done) := h.set 4 (.int .i64 x)
theorem legC_done (h : Blk w b (legC lv dv iv next round ov wv ev l0 l1 l2 l3 l4 l5 l6 l7 done)) (x : Int) : Blk (w.setCell ⟨b, 16, none⟩ (.int .i64 x)) b (legC lv dv iv next round ov wv ev l0 l1 l2 l3 l4 l5 l6 l7 x) := h.set 16 (.int .i64 x)
theorem legC_left (h : Blk w b (legC lv dv iv next round ov wv ev l0 l1 l2 l3 l4 l5 l6 l7 done)) (x : Value) : Blk (w.setCell ⟨b, 0, none⟩ x) b (legC x dv iv next round ov wv ev l0 l1 l2 l3 l4 l5 l6 l7 done) := h.set 0 x
theorem legC_darts (h : Blk w b (legC lv dv iv next round ov wv ev l0 l1 l2 l3 l4 l5 l6 l7 done)) (x : Value) : Blk (w.setCell ⟨b, 1, none⟩ x) b (legC lv x iv next round ov wv ev l0 l1 l2 l3 l4 l5 l6 l7 done) := h.set 1 x
theorem legC_inn (h : Blk w b (legC lv dv iv next round ov wv ev l0 l1 l2 l3 l4 l5 l6 l7 done)) (x : Value) : Blk (w.setCell ⟨b, 2, none⟩ x) b (legC lv dv x next round ov wv ev l0 l1 l2 l3 l4 l5 l6 l7 done) := h.set 2 x
theorem legC_ended (h : Blk w b (legC lv dv iv next round ov wv ev l0 l1 l2 l3 l4 l5 l6 l7 done)) (x : Value) : Blk (w.setCell ⟨b, 7, none⟩ x) b (legC lv dv iv next round ov wv x l0 l1 l2 l3 l4 l5 l6 l7 done) := h.set 7 x
theorem legC_cells (h : Blk w b (legC lv dv iv next round ov wv ev l0 l1 l2 l3 l4 l5 l6 l7 done)) :
    (w.cell? ⟨b, 0, none⟩ = some lv ∧ w.cell? ⟨b, 1, none⟩ = some dv ∧ w.cell? ⟨b, 2, none⟩ = some iv ∧ w.cell? ⟨b, 3, none⟩ = some (.int .i64 next) ∧ w.cell? ⟨b, 4, none⟩ = some (.int .i64 round) ∧ w.cell? ⟨b, 5, none⟩ = some (.bool ov) ∧ w.cell? ⟨b, 6, none⟩ = some wv ∧ w.cell? ⟨b, 7, none⟩ = some ev ∧ w.cell? ⟨b, 8, none⟩ = some (.int .i64 l0)) ∧
    (w.cell? ⟨b, 9, none⟩ = some (.int .i64 l1) ∧ w.cell? ⟨b, 10, none⟩ = some (.int .i64 l2) ∧ w.cell? ⟨b, 11, none⟩ = some (.int .i64 l3) ∧ w.cell? ⟨b, 12, none⟩ = some (.int .i64 l4) ∧ w.cell? ⟨b, 13, none⟩ = some (.int .i64 l5) ∧ w.cell? ⟨b, 14, none⟩ = some (.int .i64 l6) ∧ w.cell? ⟨b, 15, none⟩ = some (.int .i64 l7) ∧ w.cell? ⟨b, 16, none⟩ = some (.int .i64 done)) := blk17 h
end
theorem pick_step {ps ns : List Int} {m : Int} {k : Nat} (hk : k < ns.length) {W : List Int} (hW : ∀ x, x ∈ W ↔ pickF ps ns x = some m ∧ x < (k : Int)) (hp : W.Pairwise (· < ·)) (h : (ps.any (· == (k : Int)) && ns[k] == m) = true) :
    (∀ x, x ∈ W ++ [(k : Int)] ↔ pickF ps ns x = some m ∧ x < ((k + 1 : Nat) : Int)) ∧ (W ++ [(k : Int)]).Pairwise (· < ·) := by
  have hf : pickF ps ns (k : Int) = some m := by
    simp only [Bool.and_eq_true, beq_iff_eq] at h
    unfold pickF leftF
    rw [if_pos h.1, if_pos (by omega)]
    simp [hk, h.2]
  refine ⟨fun x => ?_, ?_⟩
  · rw [List.mem_append, hW x, List.mem_singleton]
    refine ⟨fun h => ?_, fun ⟨h1, h2⟩ => ?_⟩
    · rcases h with ⟨h1, h2⟩ | rfl
      · exact ⟨h1, by omega⟩
      · exact ⟨hf, by omega⟩
    · by_cases e : x = k
      · exact .inr e
      · exact .inl ⟨h1, by omega⟩
  · refine List.pairwise_append.2 ⟨hp, List.pairwise_singleton _ _, fun x hx y hy => ?_⟩
    obtain rfl := List.mem_singleton.1 hy
    exact ((hW x).1 hx).2
theorem pick_skip {ps ns : List Int} {m : Int} {k : Nat} (hk : k < ns.length) {W : List Int} (hW : ∀ x, x ∈ W ↔ pickF ps ns x = some m ∧ x < (k : Int)) (h : (ps.any (· == (k : Int)) && ns[k] == m) = false) :
    ∀ x, x ∈ W ↔ pickF ps ns x = some m ∧ x < ((k + 1 : Nat) : Int) := fun x => by
  rw [hW x]
  refine ⟨fun ⟨h1, h2⟩ => ⟨h1, by omega⟩, fun ⟨h1, h2⟩ => ⟨h1, ?_⟩⟩
  by_cases e : x = k
  · subst e
    unfold pickF leftF at h1
    split at h1
    · rename_i ha
      rw [if_pos (by omega)] at h1
      simp only [Int.toNat_natCast, List.getElem?_eq_getElem hk, Option.some.injEq] at h1
      rw [ha, h1] at h
      simp at h
    · cases h1
  · omega
def Slc (v : Value) : Prop := ∃ a n c, v = .slice a n c
/-- What ends a leg's words. -/
structure OvR (w w' : World) (e : Ending) (lv dv iv : Value) (round : Int) (ev : Value) (l0 l1 l2 l3 l4 l5 l6 l7 done : Int) (W : List Int) : Prop where
  ext : Ext w w'
  out : ∃ wv, e = .returned (.agg (legC lv dv iv (-1) round true wv ev l0 l1 l2 l3 l4 l5 l6 l7 done)) ∧ OwnI w' w.heap.size wv W
set_option maxHeartbeats 2000000 in
theorem ref_over (lv dv iv : Value) (next round : Int) (ov : Bool) (wv ev : Value) (l0 l1 l2 l3 l4 l5 l6 l7 done : Int) (ps ns : List Int) (pa na : Option Addr) (pc nc : Nat) (w : World)
    (slv : Slc lv) (sdv : Slc dv) (siv : Slc iv) (swv : Slc wv) (sev : Slc ev) (hp : CellsAt w .i64 pa ps) (hn : CellsAt w .i64 na ns) (hpl : 0 < ps.length ∧ ps.length ≤ 1000000) (hnl : ns.length ≤ 1000000) (hps : ∀ x ∈ ps, 0 ≤ x ∧ x < ns.length) (hns : ∀ x ∈ ns, 0 ≤ x ∧ x ≤ 1001) :
    Calls Try.prog 73 #[.agg (legC lv dv iv next round ov wv ev l0 l1 l2 l3 l4 l5 l6 l7 done), .slice pa ps.length pc, .slice na ns.length nc] w fun e w' => OvR w w' e lv dv iv round ev l0 l1 l2 l3 l4 l5 l6 l7 done (winS ns.length (pickF ps ns)) := by
  have HP := Lib.hid hp
  have HN := Lib.hid hn
  have HPS := Lib.hid hps
  have HNS := Lib.hid hns
  have hpk : ∀ k, (h : k < ps.length) → 0 ≤ ps[k] ∧ ps[k].toNat < ns.length := fun k h => by have := hps ps[k] (List.getElem_mem h); omega
  have HPK := Lib.hid hpk
  clear hp hn hps hns hpk
  obtain ⟨la, ln, lc, rfl⟩ := slv
  obtain ⟨da, dn, dc, rfl⟩ := sdv
  obtain ⟨ia, im, ic, rfl⟩ := siv
  obtain ⟨wa, wm, wc, rfl⟩ := swv
  obtain ⟨ea, em, ec, rfl⟩ := sev
  obtain ⟨lv, hlv⟩ : ∃ x : Value, x = .slice la ln lc := ⟨_, rfl⟩
  obtain ⟨dv, hdv⟩ : ∃ x : Value, x = .slice da dn dc := ⟨_, rfl⟩
  obtain ⟨iv, hiv⟩ : ∃ x : Value, x = .slice ia im ic := ⟨_, rfl⟩
  obtain ⟨wv, hwv⟩ : ∃ x : Value, x = .slice wa wm wc := ⟨_, rfl⟩
  obtain ⟨ev, hev⟩ : ∃ x : Value, x = .slice ea em ec := ⟨_, rfl⟩
  rw [← hlv, ← hdv, ← hiv, ← hwv, ← hev]
  have HLV := Lib.hid hlv
  have HDV := Lib.hid hdv
  have HIV := Lib.hid hiv
  have HWV := Lib.hid hwv
  have HEV := Lib.hid hev
  clear hlv hdv hiv hwv hev
  unfold legC
  obtain ⟨b0, o0, rfl, p0⟩ := HP.out 0 hpl.1
  obtain ⟨h00, h01⟩ := HPK.out 0 hpl.1
  obtain ⟨b1, o1, rfl, q0⟩ := HN.out ps[0].toNat h01
  have hlp0 := lt_of_cell p0
  have hlq0 := lt_of_cell q0
  rw [Nat.add_zero] at p0
  go_enter Try.func73, Try.ntmps73
  go_wp2
  generalize hW : World.alloc _ _ = W
  have hE : Ext w W := by rw [← hW]; exact ((Ext.refl w).alloc _).alloc _
  have hA : Blk W w.heap.size (legC lv dv iv next round ov wv ev l0 l1 l2 l3 l4 l5 l6 l7 done) := by rw [← hW]; exact (Blk.new w _ _).alloc _
  have hB : Blk W (w.heap.size + 1) legZ := by rw [← hW]; exact Blk.at _ (by simp)
  have HA := Lib.hid hA
  have HB := Lib.hid hB
  clear hW hA hB
  go_loop [7, 8] (fun mv i => ∃ (k : Nat) (m : Int), k ≤ ps.length ∧ mv = .int .i64 m ∧ i = .int .i64 k ∧ (∀ j, (h : j < ps.length) → j < k → ∀ h2 : ps[j].toNat < ns.length, m ≤ ns[ps[j].toNat]) ∧ (∃ x, pickF ps ns x = some m)) (fun _ i => ps.length - (intOf i).toNat)
  case atStart => exact ⟨0, _, Nat.zero_le _, rfl, rfl, fun j h hj => absurd hj (by omega), ⟨ps[0], by rw [pickF_of (List.getElem_mem hpl.1) ⟨h00, by omega⟩]⟩⟩
  case round =>
    obtain ⟨k, m, hk, rfl, rfl, hlow, hgot⟩ := hrel
    have HL := Lib.hid hlow
    have HG := Lib.hid hgot
    clear hlow hgot
    by_cases hlt : k < ps.length
    · obtain ⟨b2, o2, e2, p2⟩ := HP.out k hlt
      obtain ⟨h20, h21⟩ := HPK.out k hlt
      obtain ⟨b3, o3, e3, q2⟩ := HN.out ps[k].toNat h21
      cases e2; cases e3
      replace p2 := hE.cell p2
      replace q2 := hE.cell q2
      have hlp2 := lt_of_cell p2
      have hlq2 := lt_of_cell q2
      go_wp2
      go_round
      case rel =>
        refine ⟨k + 1, _, by omega, rfl, by go_num, fun j h hj h2 => ?_, ?_⟩
        · rcases Nat.lt_or_ge j k with h3 | h3
          · have := HL.out j h h3 h2; omega
          · obtain rfl : j = k := by omega
            omega
        · by_cases hle : m ≤ ns[ps[k].toNat]
          · rw [show min m ns[ps[k].toNat] = m by omega]; exact HG.out
          · rw [show min m ns[ps[k].toNat] = ns[ps[k].toNat] by omega]
            exact ⟨ps[k], pickF_of (List.getElem_mem hlt) ⟨h20, by omega⟩⟩
      case measure => simp [intOf]; omega
    · have hleast : IsLeast (pickF ps ns) m := by
        obtain ⟨x, hx⟩ := HG.out
        refine ⟨by have := HNS.out _ (pickF_mem hx).1; omega, fun y c hy => ?_, .inr ⟨x, hx⟩⟩
        obtain ⟨j, hj, rfl⟩ := List.mem_iff_getElem.1 (pickF_mem hy).2
        have hd := pickF_dom hy
        have := HL.out j hj (by omega) (by omega)
        rw [pickF_of (List.getElem_mem hj) hd] at hy
        cases hy
        exact this
      have HLe := Lib.hid hleast
      clear hleast HL HG
      obtain ⟨⟨-, -, -, z3, z4, z5, z6, -, -⟩, -⟩ := legC_cells HA.out
      obtain ⟨⟨-, -, -, f3, f4, f5, f6, -, -⟩, -⟩ := frz17 HA.out
      have hAs := HA.out.lt
      have hx2 := ((hE.setCell (p := ⟨w.heap.size, 5, none⟩) (Nat.le_refl _) (.bool true)).setCell (p := ⟨w.heap.size, 3, none⟩) (Nat.le_refl _) (.int .i64 (-1))).setCell (p := ⟨w.heap.size, 6, none⟩) (Nat.le_refl _) (.slice none 0 0)
      have hA2 : Blk (((W.setCell ⟨w.heap.size, 5, none⟩ (.bool true)).setCell ⟨w.heap.size, 3, none⟩ (.int .i64 (-1))).setCell ⟨w.heap.size, 6, none⟩ (.slice none 0 0)) w.heap.size (legC lv dv iv (-1) round true (.slice none 0 0) ev l0 l1 l2 l3 l4 l5 l6 l7 done) := legC_win (legC_next (legC_over HA.out true) (-1)) (.slice none 0 0)
      have hB2 : Blk (((W.setCell ⟨w.heap.size, 5, none⟩ (.bool true)).setCell ⟨w.heap.size, 3, none⟩ (.int .i64 (-1))).setCell ⟨w.heap.size, 6, none⟩ (.slice none 0 0)) (w.heap.size + 1) legZ := ((HB.out.other (a := ⟨w.heap.size, 5, none⟩) (by simp) _).other (a := ⟨w.heap.size, 3, none⟩) (by simp) _).other (a := ⟨w.heap.size, 6, none⟩) (by simp) _
      have HX2 := Lib.hid hx2
      have HA2 := Lib.hid hA2
      have HB2 := Lib.hid hB2
      clear hx2 hA2 hB2 HA HB
      go_wp2
      go_loopw [9] (fun i wr => ∃ (k : Nat) (wv' : Value) (V : List Int), k ≤ ns.length ∧ i = .int .i64 k ∧ (∀ x, x ∈ V ↔ pickF ps ns x = some m ∧ x < (k : Int)) ∧ V.Pairwise (· < ·) ∧ V.length ≤ k ∧ Blk wr w.heap.size (legC lv dv iv (-1) round true wv' ev l0 l1 l2 l3 l4 l5 l6 l7 done) ∧ Blk wr (w.heap.size + 1) legZ ∧ OwnI wr (w.heap.size + 2) wv' V ∧ Ext w wr) (fun i _ => ns.length - (intOf i).toNat)
      case atStart => exact ⟨0, _, [], Nat.zero_le _, rfl, fun x => ⟨fun h => (by cases h), fun ⟨h1, h2⟩ => by have := pickF_dom h1; omega⟩, List.Pairwise.nil, Nat.le_refl _, HA2.out, HB2.out, OwnI.nil _ _, HX2.out⟩
      case round =>
        obtain ⟨j, wv', V, hj, rfl, hmem, hpw, hVl, hA3, hB3, hO3, hx3⟩ := hrel
        have HM := Lib.hid hmem
        have HW := Lib.hid hpw
        have HA3 := Lib.hid hA3
        have HB3 := Lib.hid hB3
        have HO3 := Lib.hid hO3
        clear hmem hpw hA3 hB3 hO3 HX2 HA2 HB2
        by_cases hjt : j < ns.length
        · obtain ⟨b3, o3, e3, q2⟩ := HN.out j hjt
          cases e3
          replace q2 := hx3.cell q2
          have hlq2 := lt_of_cell q2
          have hhas := ref_has ps (j : Int) (some ⟨b0, o0, none⟩) pc wr (HP.out.ext hx3) (by omega)
          have HH := Lib.hid hhas
          clear hhas
          go_wp2_with fail
          refine HH.out.mono ?_
          rintro e w4 ⟨rfl, rfl⟩
          cases hb : (ps.any (· == (j : Int)) && ns[j] == m)
          · have HS := Lib.hid (pick_skip hjt HM.out hb)
            cases h1 : ps.any (· == (j : Int))
            · clear hb
              go_wp2
              go_roundw
              case rel => exact ⟨j + 1, wv', V, by omega, by go_num, HS.out, HW.out, by omega, HA3.out, HB3.out, HO3.out, hx3⟩
              case measure => simp [intOf]; omega
            · rw [h1, Bool.true_and] at hb
              go_wp2
              go_roundw
              case rel => exact ⟨j + 1, wv', V, by omega, by go_num, HS.out, HW.out, by omega, HA3.out, HB3.out, HO3.out, hx3⟩
              case measure => simp [intOf]; omega
          · have HS := Lib.hid (pick_step hjt HM.out HW.out hb)
            obtain ⟨h1, h2⟩ := Bool.and_eq_true_iff.1 hb
            have hc6 := HA3.out.cell 6 (v := wv') rfl
            have hal := HA3.out.lt
            clear hb
            go_wp2_with (at_builtin; refine wp_append_i rfl _ _ rfl (w.heap.size + 2) wv' V rfl (HO3.out.ext ((Ext.refl wr).alloc _)) ⟨wr.heap.size, 0, none⟩ 1 (j : Int) rfl (by simp [go_sem]) (by omega) (by simp; omega) ?_)
            intro v' w4 hO4 hg4
            obtain ⟨av, ac, hv', -⟩ := hO4.cells
            rw [show (V ++ [(j : Int)]).length = V.length + 1 by simp] at hv'
            have hfr := HO3.out.from
            have hE4 : Ext w w4 := Ext.grown (hx3.alloc _) hg4 (fun i e => by have := hfr i e; omega)
            have hA4 := (HA3.out.alloc _).chg (grown_chg hg4) (fun e => by have := hfr _ e; omega)
            have hB4 := (HB3.out.alloc _).chg (grown_chg hg4) (fun e => by have := hfr _ e; omega)
            have f6 := hA4.frozen 6
            have c6 := hA4.cell 6 rfl
            have b4 := hA4.lt
            have hset := Chg.setCell (S := (· = w.heap.size)) (Chg.refl _ w4) (p := ⟨w.heap.size, 6, none⟩) (.inr rfl) v'
            have hO5 := hO4.chg hset (fun k hk e => by have := hO4.from k hk; omega)
            have HA5 := Lib.hid (legC_win hA4 v')
            have HB5 := Lib.hid (hB4.other (a := ⟨w.heap.size, 6, none⟩) (by simp) v')
            have HO5 := Lib.hid hO5
            have HX5 := Lib.hid (hE4.setCell (p := ⟨w.heap.size, 6, none⟩) (Nat.le_refl _) v')
            clear hO4 hg4 hfr hO5 hA4 hB4 hset hE4
            subst hv'
            go_wp2
            go_roundw
            case rel => exact ⟨j + 1, _, V ++ [(j : Int)], by omega, by go_num, HS.out.1, HS.out.2, by simp; omega, HA5.out, HB5.out, HO5.out, HX5.out⟩
            case measure => simp [intOf]; omega
        · have hWin : V = winS ns.length (pickF ps ns) := win_unique HW.out HLe.out (fun x => by
            rw [HM.out x]
            exact ⟨fun h => h.1, fun h => ⟨h, by have := pickF_dom h; omega⟩⟩) (fun x c h => pickF_dom h)
          have HWn := Lib.hid hWin
          clear hWin
          obtain ⟨av, ac, rfl, -⟩ := HO3.out.cells
          obtain rfl := HLV.out
          obtain rfl := HDV.out
          obtain rfl := HIV.out
          obtain rfl := HEV.out
          obtain ⟨⟨z0, z1, z2, z3, z4, z5, z6, z7, z8⟩, z9, z10, z11, z12, z13, z14, z15, z16⟩ := legC_cells HA3.out
          obtain ⟨⟨f0, f1, f2, f3, f4, f5, f6, f7, f8⟩, f9, f10, f11, f12, f13, f14, f15, f16⟩ := frz17 HB3.out
          obtain ⟨⟨y0, y1, y2, y3, y4, y5, y6, y7, y8⟩, y9, y10, y11, y12, y13, y14, y15, y16⟩ := blk17 HB3.out
          have hal := HA3.out.lt
          have hbl := HB3.out.lt
          go_wp2
          generalize hW4 : World.setCell _ _ _ = W4
          have hB4 : Blk W4 (w.heap.size + 1) (legC (.slice la ln lc) (.slice da dn dc) (.slice ia im ic) (-1) round true (.slice av V.length ac) (.slice ea em ec) l0 l1 l2 l3 l4 l5 l6 l7 done) := by rw [← hW4]; exact set17 HB3.out ..
          have hC4 : Chg (· = w.heap.size + 1) wr W4 := by rw [← hW4]; exact chg17 (· = w.heap.size + 1) wr rfl ..
          have hO4 : OwnI W4 (w.heap.size + 2) (.slice av V.length ac) V := HO3.out.chg hC4 (fun k hk e => by have := HO3.out.from k hk; omega)
          have hx4 : Ext w W4 := Chg.to_ext hx3 hC4 (fun i e => by cases e; omega)
          clear hW4 hC4 z0 z1 z2 z3 z4 z5 z6 z7 z8 z9 z10 z11 z12 z13 z14 z15 z16 y0 y1 y2 y3 y4 y5 y6 y7 y8 y9 y10 y11 y12 y13 y14 y15 y16 f0 f1 f2 f3 f4 f5 f6 f7 f8 f9 f10 f11 f12 f13 f14 f15 f16
          rw [← HWn.out]
          have hfin : OvR w W4 (.returned (.agg (legC (.slice la ln lc) (.slice da dn dc) (.slice ia im ic) (-1) round true (.slice av V.length ac) (.slice ea em ec) l0 l1 l2 l3 l4 l5 l6 l7 done))) (.slice la ln lc) (.slice da dn dc) (.slice ia im ic) round (.slice ea em ec) l0 l1 l2 l3 l4 l5 l6 l7 done V := ⟨hx4, _, rfl, own_mono hO4 (by omega)⟩
          refine bodyPost_ret (v := .agg (legC (.slice la ln lc) (.slice da dn dc) (.slice ia im ic) (-1) round true (.slice av V.length ac) (.slice ea em ec) l0 l1 l2 l3 l4 l5 l6 l7 done)) (results_leg rfl rfl hB4 rfl) rfl hfin
end Go.Proofs.Ytocnglplhnhllaa
