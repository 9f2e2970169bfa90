/-
  Package mean: Totals, First.
-/
import Derived.Test.YtmopadnkjlodnaaMad
namespace Go.Proofs.Ytmopadnkjlodnaa
open Go.RowKit
def Tot.cells (t : Tot) : Array Value := #[.int .i64 t.legs, .int .i64 t.won, .int .i64 t.visits, .int .i64 t.points, .int .i64 t.darts.lo, .int .i64 t.darts.hi, .int .i64 t.tried.lo, .int .i64 t.tried.hi, .int .i64 t.tons, .int .i64 t.highs, .int .i64 t.tops, .int .i64 t.best]
def tot0 : Tot := ⟨0, 0, 0, 0, ⟨0, 0⟩, ⟨0, 0⟩, 0, 0, 0, 0⟩
/-- A total with the first visits of a leg. -/
def legT (most : Int) (l : Leg) (xs : List Ex) (t : Tot) : Nat → Tot
  | 0 => t
  | k + 1 => if (k : Int) < most then sumS (legT most l xs t k) (xs.getD k noEx) (gAt l.start l.scores l.won k).g else legT most l xs t k
def oneMore (t : Tot) : Tot := { t with legs := wrap64 (t.legs + 1) }
def ofG (most : Int) : List Leg → Nat → Tot → Tot × Int × Int
  | [], _, t => (t, 0, 0)
  | l :: ls, i, t => if (vstF l).2.2 = 0 then ofG most ls (i + 1) (legT most l (vstF l).1 (oneMore t) l.scores.length) else (tot0, i, (vstF l).2.2)
/-- What the first visits of legs come to, or the error and its leg. -/
def ofS (most : Int) (ls : List Leg) : Tot × Int × Int := if 200 < ls.length then (tot0, 0, 5) else ofG most ls 0 tot0
theorem ofG_ok {most : Int} {ls : List Leg} {k : Nat} {t : Tot} (hk : k < ls.length) (h : (vstF ls[k]).2.2 = 0) : ofG most (ls.drop k) k t = ofG most (ls.drop (k + 1)) (k + 1) (legT most ls[k] (vstF ls[k]).1 (oneMore t) ls[k].scores.length) := by
  rw [List.drop_eq_getElem_cons hk]
  exact if_pos h
theorem ofG_bad {most : Int} {ls : List Leg} {k : Nat} {t : Tot} (hk : k < ls.length) (h : (vstF ls[k]).2.2 ≠ 0) : ofG most (ls.drop k) k t = (tot0, (k : Int), (vstF ls[k]).2.2) := by
  rw [List.drop_eq_getElem_cons hk]
  exact if_neg h
def Leg.cells (l : Leg) (ba sa : Option Addr) (bc sc : Nat) : List Value := [.int .i64 l.start, .int .i64 l.gin, .int .i64 l.gout, .slice ba l.beds.length bc, .slice sa l.scores.length sc, .bool l.won]
/-- Legs that lie in a row. -/
def LegsAt (w : World) (a : Option Addr) (ls : List Leg) : Prop := ∀ i (h : i < ls.length), ∃ b o ba sa bc sc, a = some ⟨b, o, none⟩ ∧ (∀ j u, (ls[i].cells ba sa bc sc)[j]? = some u → w.cell? ⟨b, o + i * 6 + j, none⟩ = some u) ∧ LegR ls[i] ba sa bc sc w
theorem LegsAt.ext {w w' : World} {a : Option Addr} {ls : List Leg} (h : LegsAt w a ls) (hx : Ext w w') : LegsAt w' a ls := fun i hi =>
  let ⟨b, o, ba, sa, bc, sc, e, h1, h2⟩ := h i hi; ⟨b, o, ba, sa, bc, sc, e, fun j u hu => hx.cell (h1 j u hu), h2.ext hx⟩
theorem vstF_len {l : Leg} (h : (vstF l).2.2 = 0) : l.ok = true ∧ (vstF l).1.length = l.scores.length := by
  unfold vstF at h ⊢
  by_cases hk : l.ok = true
  · rw [if_pos hk] at h ⊢
    refine ⟨hk, ?_⟩
    have key : ∀ (m : List Sg) (acc : List Ex), (visG l.gin l.gout l.beds m acc).2.2 = 0 → (visG l.gin l.gout l.beds m acc).1.length = acc.length + m.length := by
      intro m
      induction m with
      | nil => intro acc _; rfl
      | cons x m ih =>
        intro acc h
        have e : visG l.gin l.gout l.beds (x :: m) acc = (match exS (outS l.gin l.gout l.beds x.s) x.g with | none => ([], (acc.length : Int), 7) | some e => visG l.gin l.gout l.beds m (acc ++ [e])) := rfl
        rw [e] at h ⊢
        cases hx : exS (outS l.gin l.gout l.beds x.s) x.g with
        | none => rw [hx] at h; simp at h
        | some y =>
          rw [hx] at h
          simp only at h ⊢
          rw [ih _ h]
          simp
          omega
    have := key _ _ h
    unfold visR
    rw [this, goT_len]
    simp
  · rw [if_neg hk] at h
    simp at h
theorem twl_set {w : World} {b : Nat} {v0 v1 v2 v3 v4 v5 v6 v7 v8 v9 v10 v11 : Value} (h : Blk w b #[v0, v1, v2, v3, v4, v5, v6, v7, v8, v9, v10, v11]) (x0 x1 x2 x3 x4 x5 x6 x7 x8 x9 x10 x11 : Value) : Blk ((((((((((((w.setCell ⟨b, 0, none⟩ x0).setCell ⟨b, 1, none⟩ x1).setCell ⟨b, 2, none⟩ x2).setCell ⟨b, 3, none⟩ x3).setCell ⟨b, 4, none⟩ x4).setCell ⟨b, 5, none⟩ x5).setCell ⟨b, 6, none⟩ x6).setCell ⟨b, 7, none⟩ x7).setCell ⟨b, 8, none⟩ x8).setCell ⟨b, 9, none⟩ x9).setCell ⟨b, 10, none⟩ x10).setCell ⟨b, 11, none⟩ x11) b #[x0, x1, x2, x3, x4, x5, x6, x7, x8, x9, x10, x11] := by
  have h0 : Blk _ b #[x0, v1, v2, v3, v4, v5, v6, v7, v8, v9, v10, v11] := h.set 0 x0
  have h1 : Blk _ b #[x0, x1, v2, v3, v4, v5, v6, v7, v8, v9, v10, v11] := h0.set 1 x1
  have h2 : Blk _ b #[x0, x1, x2, v3, v4, v5, v6, v7, v8, v9, v10, v11] := h1.set 2 x2
  have h3 : Blk _ b #[x0, x1, x2, x3, v4, v5, v6, v7, v8, v9, v10, v11] := h2.set 3 x3
  have h4 : Blk _ b #[x0, x1, x2, x3, x4, v5, v6, v7, v8, v9, v10, v11] := h3.set 4 x4
  have h5 : Blk _ b #[x0, x1, x2, x3, x4, x5, v6, v7, v8, v9, v10, v11] := h4.set 5 x5
  have h6 : Blk _ b #[x0, x1, x2, x3, x4, x5, x6, v7, v8, v9, v10, v11] := h5.set 6 x6
  have h7 : Blk _ b #[x0, x1, x2, x3, x4, x5, x6, x7, v8, v9, v10, v11] := h6.set 7 x7
  have h8 : Blk _ b #[x0, x1, x2, x3, x4, x5, x6, x7, x8, v9, v10, v11] := h7.set 8 x8
  have h9 : Blk _ b #[x0, x1, x2, x3, x4, x5, x6, x7, x8, x9, v10, v11] := h8.set 9 x9
  have h10 : Blk _ b #[x0, x1, x2, x3, x4, x5, x6, x7, x8, x9, x10, v11] := h9.set 10 x10
  have h11 : Blk _ b #[x0, x1, x2, x3, x4, x5, x6, x7, x8, x9, x10, x11] := h10.set 11 x11
  exact h11
theorem twl_chg (S : Nat → Prop) (w : World) {b : Nat} (hb : S b) (x0 x1 x2 x3 x4 x5 x6 x7 x8 x9 x10 x11 : Value) : Chg S w ((((((((((((w.setCell ⟨b, 0, none⟩ x0).setCell ⟨b, 1, none⟩ x1).setCell ⟨b, 2, none⟩ x2).setCell ⟨b, 3, none⟩ x3).setCell ⟨b, 4, none⟩ x4).setCell ⟨b, 5, none⟩ x5).setCell ⟨b, 6, none⟩ x6).setCell ⟨b, 7, none⟩ x7).setCell ⟨b, 8, none⟩ x8).setCell ⟨b, 9, none⟩ x9).setCell ⟨b, 10, none⟩ x10).setCell ⟨b, 11, none⟩ x11) :=
  ((((((((((((Chg.refl S w).setCell (.inr hb) x0).setCell (.inr hb) x1).setCell (.inr hb) x2).setCell (.inr hb) x3).setCell (.inr hb) x4).setCell (.inr hb) x5).setCell (.inr hb) x6).setCell (.inr hb) x7).setCell (.inr hb) x8).setCell (.inr hb) x9).setCell (.inr hb) x10).setCell (.inr hb) x11
end Go.Proofs.Ytmopadnkjlodnaa
namespace Go.Proofs.Ytmopadnkjlodnaa
open Go.RowKit Go.BigFrame
attribute [local go_sem] Oper.semAt_some Later.cell Later.frozen Lat.cell Lat.frozen NoX
/-- Between two legs. -/
structure OfI (most : Int) (ls : List Leg) (K4 : Nat) (w1 : World) (k : Nat) (t : Tot) (W : World) (dsn : List Nat) : Prop where
  le : k ≤ ls.length
  res : ofG most ls 0 tot0 = ofG most (ls.drop k) k t
  tot : Blk W K4 t.cells
  chg : Chg (· = K4) w1 W
  marks : Marks w1.heap.size W dsn
/-- Between two visits of a leg. -/
structure OfV (most : Int) (l : Leg) (xs : List Ex) (t0 : Tot) (K4 k12 : Nat) (w2 : World) (pre : List Sg) (W : World) : Prop where
  k : Blk W k12 #[.int .i64 pre.length]
  tot : Blk W K4 (legT most l xs t0 pre.length).cells
  chg : Chg (fun q => q = K4 ∨ q = k12) w2 W
theorem OfV.abc {most : Int} {l : Leg} {xs : List Ex} {t0 : Tot} {K4 k12 : Nat} {w2 : World} (h1 : K4 < w2.heap.size) (h2 : k12 < w2.heap.size) : AbC w2.heap.size (2 + 1) (OfV most l xs t0 K4 k12 w2) := by
  rintro pre A B row ⟨a1, a2, a3⟩ hg hr
  have hx := grown_chg hg
  exact ⟨a1.chg hx (fun e => by have := hr _ e; omega), a2.chg hx (fun e => by have := hr _ e; omega), chgm_grown a3 hg (fun r e => (hr r e).1)⟩
structure OfA (f : Nat → Array Value) (B : Nat) (x : Sg) (a' : Act) (W : World) : Prop where
  ex : ∃ k14, a' = { tmps := f k14, defers := [] } ∧ B + 3 ≤ k14 ∧ Blk W k14 #[.int .i64 x.g.score, .bool x.g.wins]
theorem OfA.abc (f : Nat → Array Value) (B : Nat) (x : Sg) (a' : Act) : AbC B (2 + 1) (fun (_ : Unit) W => OfA f B x a' W) := by
  rintro u A C row ⟨k14, e, h1, h2⟩ hg hr
  exact ⟨k14, e, h1, h2.chg (grown_chg hg) (fun e => by have := hr _ e; omega)⟩
set_option maxRecDepth 100000 in
set_option maxHeartbeats 8000000 in
theorem mean_of (ls : List Leg) (la : Option Addr) (lc : Nat) (most : Int) (w : World) (hl : LegsAt w la ls) (hn : ls.length ≤ 1000000) :
    Calls Try.prog 74 #[.slice la ls.length lc, .int .i64 most] w fun e w' => e = .returned (.tuple #[.agg (ofS most ls).1.cells, .int .i64 (ofS most ls).2.1, .int .i64 (ofS most ls).2.2]) ∧ Ext w w' := by
  obtain ⟨RV, hRV⟩ : ∃ r, ofS most ls = r := ⟨_, rfl⟩
  rw [hRV]
  refine (callsIn_wide (n := 8)).1 ?_
  have HRV := Lib.hid hRV
  have HL := Lib.hid hl
  have HN := Lib.hid hn
  clear hRV hl hn
  refine callsIn_of_wp_marks Try.func74 rfl trivial ?_ rfl
  simp only [Try.ntmps74, List.size_toArray, List.length_cons, List.length_nil, Nat.reduceAdd, Nat.reduceSub, Array.replicate_succ, Array.replicate_zero, List.push_toArray, List.append_toArray, List.nil_append, List.cons_append]
  gi_upto_region 1 with fail
  generalize hw1 : World.alloc (World.alloc w _) _ = w1
  obtain ⟨B, hBB⟩ : ∃ y, y = w.heap.size := ⟨_, rfl⟩
  rw [← hBB]
  have hx1 : Ext w w1 := by rw [← hw1]; exact ((Ext.refl w).alloc _).alloc _
  have H3 : Hid (Blk w1 B #[.int .i64 most]) := Lib.hid (by rw [← hw1, hBB]; exact (Blk.new w _ _).alloc _)
  have H4 : Hid (Blk w1 (B + 1) tot0.cells) := Lib.hid (by rw [← hw1]; exact Blk.at _ (by simp [hBB]))
  have HX1 := Lib.hid hx1
  have HBB := Lib.hid hBB
  clear hw1 hx1 hBB
  have HL1 := Lib.hid (HL.out.ext HX1.out)
  by_cases hbig : 200 < ls.length
  · have HRE : Hid (RV = (tot0, 0, 5)) := Lib.hid (by rw [← HRV.out]; exact if_pos hbig)
    have hb' : (200 : Int) < (ls.length : Int) := by omega
    have z0 := H4.out.cell 0 (v := .int .i64 0) rfl
    have zf0 := H4.out.frozen 0
    have z1 := H4.out.cell 1 (v := .int .i64 0) rfl
    have zf1 := H4.out.frozen 1
    have z2 := H4.out.cell 2 (v := .int .i64 0) rfl
    have zf2 := H4.out.frozen 2
    have z3 := H4.out.cell 3 (v := .int .i64 0) rfl
    have zf3 := H4.out.frozen 3
    have z4 := H4.out.cell 4 (v := .int .i64 0) rfl
    have zf4 := H4.out.frozen 4
    have z5 := H4.out.cell 5 (v := .int .i64 0) rfl
    have zf5 := H4.out.frozen 5
    have z6 := H4.out.cell 6 (v := .int .i64 0) rfl
    have zf6 := H4.out.frozen 6
    have z7 := H4.out.cell 7 (v := .int .i64 0) rfl
    have zf7 := H4.out.frozen 7
    have z8 := H4.out.cell 8 (v := .int .i64 0) rfl
    have zf8 := H4.out.frozen 8
    have z9 := H4.out.cell 9 (v := .int .i64 0) rfl
    have zf9 := H4.out.frozen 9
    have z10 := H4.out.cell 10 (v := .int .i64 0) rfl
    have zf10 := H4.out.frozen 10
    have z11 := H4.out.cell 11 (v := .int .i64 0) rfl
    have zf11 := H4.out.frozen 11
    have zl := H4.out.lt
    gi_wp2
    have hT := twl_set (b := B + 1) H4.out (.int .i64 0) (.int .i64 0) (.int .i64 0) (.int .i64 0) (.int .i64 0) (.int .i64 0) (.int .i64 0) (.int .i64 0) (.int .i64 0) (.int .i64 0) (.int .i64 0) (.int .i64 0)
    have hC := twl_chg (· = B + 1) w1 (b := B + 1) rfl (.int .i64 0) (.int .i64 0) (.int .i64 0) (.int .i64 0) (.int .i64 0) (.int .i64 0) (.int .i64 0) (.int .i64 0) (.int .i64 0) (.int .i64 0) (.int .i64 0) (.int .i64 0)
    generalize World.setCell _ _ _ = W3 at hT hC ⊢
    have z0 := hT.cell 0 (v := .int .i64 0) rfl
    have z1 := hT.cell 1 (v := .int .i64 0) rfl
    have z2 := hT.cell 2 (v := .int .i64 0) rfl
    have z3 := hT.cell 3 (v := .int .i64 0) rfl
    have z4 := hT.cell 4 (v := .int .i64 0) rfl
    have z5 := hT.cell 5 (v := .int .i64 0) rfl
    have z6 := hT.cell 6 (v := .int .i64 0) rfl
    have z7 := hT.cell 7 (v := .int .i64 0) rfl
    have z8 := hT.cell 8 (v := .int .i64 0) rfl
    have z9 := hT.cell 9 (v := .int .i64 0) rfl
    have z10 := hT.cell 10 (v := .int .i64 0) rfl
    have z11 := hT.cell 11 (v := .int .i64 0) rfl
    refine ret_m (v := .tuple #[.agg tot0.cells, .int .i64 0, .int .i64 5]) rfl (by simp [results, Try.results74, go_sem, z0, z1, z2, z3, z4, z5, z6, z7, z8, z9, z10, z11]; rfl) ⟨by rw [HRE.out], Chg.to_ext HX1.out hC (by rintro i rfl; rw [HBB.out]; omega)⟩
  · have HRE : Hid (RV = ofG most ls 0 tot0) := Lib.hid (by rw [← HRV.out]; exact if_neg hbig)
    have hlen : ls.length ≤ 200 := by omega
    have HLEN := Lib.hid hlen
    have hb' : ¬ (200 : Int) < (ls.length : Int) := by omega
    gi_wp2
    clear hb'
    refine wpIn_loop (fun a' W => ∃ (x7 x8 x9 x10 x11 x12 x13 x14 x22 x23 x24 x25 x26 x27 x28 x29 x30 x31 x32 x33 x34 x35 x36 x37 x38 x39 x40 x41 x42 x43 x44 x45 x46 x47 x48 x49 x50 x51 x52 x53 x54 x55 x56 x57 x58 x59 : Value) (k : Nat) (t : Tot) (dsn : List Nat), OfI most ls (B + 1) w1 k t W dsn ∧ a' = { tmps := #[.slice la ls.length lc, .int .i64 most, undef, .pointer (some ⟨B, 0, none⟩), .pointer (some ⟨B + 1, 0, none⟩), .int .i64 0, .int .i64 0, x7, x8, x9, x10, x11, x12, x13, x14, .slice la ls.length lc, .int .i64 ls.length, .bool false, undef, .slice la ls.length lc, .int .i64 ls.length, .int .i64 k, x22, x23, x24, x25, x26, x27, x28, x29, x30, x31, x32, x33, x34, x35, x36, x37, x38, x39, x40, x41, x42, x43, x44, x45, x46, x47, x48, x49, x50, x51, x52, x53, x54, x55, x56, x57, x58, x59], defers := dsn.map markOf }) (fun a' _ => ls.length - (intOf (a'.tmps.getD 21 undef)).toNat) ⟨_, _, _, _, _, _, _, _, _, _, _, _, _, _, _, _, _, _, _, _, _, _, _, _, _, _, _, _, _, _, _, _, _, _, _, _, _, _, _, _, _, _, _, _, _, _, 0, tot0, [], ⟨Nat.zero_le _, by rw [List.drop_zero], H4.out, Chg.refl _ _, Marks.nil _ _⟩, rfl⟩ ?_
    rintro a' wr ⟨x7, x8, x9, x10, x11, x12, x13, x14, x22, x23, x24, x25, x26, x27, x28, x29, x30, x31, x32, x33, x34, x35, x36, x37, x38, x39, x40, x41, x42, x43, x44, x45, x46, x47, x48, x49, x50, x51, x52, x53, x54, x55, x56, x57, x58, x59, k, t, dsn, hI, rfl⟩
    have HI := Lib.hid hI
    clear hI
    dsimp only
    by_cases hlt : k < ls.length
    · obtain ⟨bb, bo, lba, lsa, lbc, lsc, rfl, hcell, hlr⟩ := HL.out k hlt
      obtain ⟨l, hle⟩ : ∃ y, ls[k] = y := ⟨_, rfl⟩
      rw [hle] at hcell hlr
      have HLE := Lib.hid hle
      have HLR := Lib.hid hlr
      have HCELL := Lib.hid hcell
      clear hle hlr hcell
      have HWR : Hid (Chg S0 w wr) := Lib.hid ((HX1.out.chg S0).far HI.out.chg (fun j hj => .inr (by have := HBB.out; omega)))
      have c0 : wr.cell? ⟨bb, bo + k * 6, none⟩ = some (.int .i64 l.start) := HWR.out.cell (HCELL.out 0 (.int .i64 l.start) rfl) id
      have c1 : wr.cell? ⟨bb, bo + k * 6 + 1, none⟩ = some (.int .i64 l.gin) := HWR.out.cell (HCELL.out 1 (.int .i64 l.gin) rfl) id
      have c2 : wr.cell? ⟨bb, bo + k * 6 + 2, none⟩ = some (.int .i64 l.gout) := HWR.out.cell (HCELL.out 2 (.int .i64 l.gout) rfl) id
      have c3 : wr.cell? ⟨bb, bo + k * 6 + 3, none⟩ = some (.slice lba l.beds.length lbc) := HWR.out.cell (HCELL.out 3 (.slice lba l.beds.length lbc) rfl) id
      have c4 : wr.cell? ⟨bb, bo + k * 6 + 4, none⟩ = some (.slice lsa l.scores.length lsc) := HWR.out.cell (HCELL.out 4 (.slice lsa l.scores.length lsc) rfl) id
      have c5 : wr.cell? ⟨bb, bo + k * 6 + 5, none⟩ = some (.bool l.won) := HWR.out.cell (HCELL.out 5 (.bool l.won) rfl) id
      have cl := lt_of_cell c0
      simp only at cl
      gi_upto_region 6 with fail
      obtain ⟨wa, hwa⟩ : ∃ y, y = wr.alloc (.cells #[.int .i64 l.start, .int .i64 l.gin, .int .i64 l.gout, .slice lba l.beds.length lbc, .slice lsa l.scores.length lsc, .bool l.won] 28) := ⟨_, rfl⟩
      obtain ⟨k8, hk8⟩ : ∃ y, y = wr.heap.size := ⟨_, rfl⟩
      rw [← hwa, ← hk8]
      have HXA : Hid (Ext wr wa) := Lib.hid (by rw [hwa]; exact (Ext.refl wr).alloc _)
      have K8 : Hid (Blk wa k8 #[.int .i64 l.start, .int .i64 l.gin, .int .i64 l.gout, .slice lba l.beds.length lbc, .slice lsa l.scores.length lsc, .bool l.won]) := Lib.hid (by rw [hwa, hk8]; exact Blk.new _ _ _)
      have HK8 := Lib.hid hk8
      clear hwa hk8 c0 c1 c2 c3 c4 c5 cl
      have HRA : Hid (LegR l lba lsa lbc lsc wa) := Lib.hid (by
        have h := HLR.out
        have hk : Kc S0 w wr := Kc.of_chg HWR.out
        exact (⟨h.beds.keep hk, h.scores.keep hk, h.wb, h.ws, h.wst⟩ : LegR l lba lsa lbc lsc wr).ext HXA.out)
      have hvv := mean_Visits l lba lsa lbc lsc wa HRA.out
      obtain ⟨er, her⟩ : ∃ y, (vstF l).2.2 = y := ⟨_, rfl⟩
      obtain ⟨av, hav⟩ : ∃ y, (vstF l).2.1 = y := ⟨_, rfl⟩
      obtain ⟨xs, hxs⟩ : ∃ y, (vstF l).1 = y := ⟨_, rfl⟩
      rw [her, hav, hxs] at hvv
      have HER := Lib.hid her
      have HXS := Lib.hid hxs
      have HVV := Lib.hid hvv
      clear hvv her hav hxs
      unfold Leg.agg at HVV
      have d0 := K8.out.cell 0 (v := .int .i64 l.start) rfl
      have d1 := K8.out.cell 1 (v := .int .i64 l.gin) rfl
      have d2 := K8.out.cell 2 (v := .int .i64 l.gout) rfl
      have d3 := K8.out.cell 3 (v := .slice lba l.beds.length lbc) rfl
      have d4 := K8.out.cell 4 (v := .slice lsa l.scores.length lsc) rfl
      have d5 := K8.out.cell 5 (v := .bool l.won) rfl
      have dl := K8.out.lt
      gi_wp2_with fail
      refine ⟨trivial, (callsIn_wide.2 HVV.out).mono ?_⟩
      rintro e wb ⟨v, rfl, hv, hxb⟩
      obtain ⟨xa, xc, rfl⟩ := hv.shape
      have HV := Lib.hid hv
      have HXB := Lib.hid (HXA.out.trans hxb)
      have K8b := Lib.hid (K8.out.ext hxb)
      clear hv hxb d0 d1 d2 d3 d4 d5 dl HVV
      have HT4 := Lib.hid (HI.out.tot.ext HXB.out)
      unfold Tot.cells at HT4
      by_cases he0 : er = 0
      · subst he0
        gi_upto_region 9 with fail
        obtain ⟨wc, hwc⟩ : ∃ y, y = wb.alloc (.cells #[.slice xa xs.length xc] 34) := ⟨_, rfl⟩
        obtain ⟨k9, hk9⟩ : ∃ y, y = wb.heap.size := ⟨_, rfl⟩
        rw [← hwc, ← hk9]
        have HXC : Hid (Ext wb wc) := Lib.hid (by rw [hwc]; exact (Ext.refl wb).alloc _)
        have K9 : Hid (Blk wc k9 #[.slice xa xs.length xc]) := Lib.hid (by rw [hwc, hk9]; exact Blk.new _ _ _)
        have HK9 := Lib.hid hk9
        have HT4c := Lib.hid (HT4.out.ext HXC.out)
        have K8c := Lib.hid (K8b.out.ext HXC.out)
        clear hwc hk9
        have z0 := HT4c.out.cell 0 (v := .int .i64 t.legs) rfl
        have zf0 := HT4c.out.frozen 0
        have zl := HT4c.out.lt
        gi_upto_region 10 with fail
        have hT : Blk _ (B + 1) (oneMore t).cells := HT4c.out.set 0 (.int .i64 (wrap64 (t.legs + 1)))
        have hC := (Chg.refl (· = B + 1) wc).setCell (p := ⟨B + 1, 0, none⟩) (.inr rfl) (.int .i64 (wrap64 (t.legs + 1)))
        generalize World.setCell _ _ _ = wd at hT hC ⊢
        have HTD := Lib.hid hT
        have HCD := Lib.hid hC
        clear z0 zf0 zl hT hC
        gi_upto_region 11 with fail
        obtain ⟨we, hwe⟩ : ∃ y, y = wd.alloc (.cells #[.int .i64 0] 3) := ⟨_, rfl⟩
        obtain ⟨k12, hk12⟩ : ∃ y, y = wd.heap.size := ⟨_, rfl⟩
        rw [← hwe, ← hk12]
        have HXE : Hid (Ext wd we) := Lib.hid (by rw [hwe]; exact (Ext.refl wd).alloc _)
        have K12 : Hid (Blk we k12 #[.int .i64 0]) := Lib.hid (by rw [hwe, hk12]; exact Blk.new _ _ _)
        have HK12 := Lib.hid hk12
        clear hwe hk12
        have hk8n : ¬ k8 = B + 1 := by have h1 := HK8.out; have h2 := HI.out.tot.lt; omega
        have K8e := Lib.hid (((K8c.out.chg HCD.out hk8n)).ext HXE.out)
        have hk9n : ¬ k9 = B + 1 := by have h1 := HK9.out; have h2 := HT4.out.lt; omega
        have K9e := Lib.hid (((K9.out.chg HCD.out hk9n)).ext HXE.out)
        have d0 := K8e.out.cell 0 (v := .int .i64 l.start) rfl
        have d1 := K8e.out.cell 1 (v := .int .i64 l.gin) rfl
        have d2 := K8e.out.cell 2 (v := .int .i64 l.gout) rfl
        have d3 := K8e.out.cell 3 (v := .slice lba l.beds.length lbc) rfl
        have d4 := K8e.out.cell 4 (v := .slice lsa l.scores.length lsc) rfl
        have d5 := K8e.out.cell 5 (v := .bool l.won) rfl
        have dl := K8e.out.lt
        gi_wp2_with fail
        refine ⟨trivial, (callsIn_wide.2 (mean_goals l.start l.gin l.gout lba lsa l.beds.length lbc l.scores.length lsc l.won we)).mono ?_⟩
        rintro e wf ⟨B1, rfl, hB1, hb1, hxf⟩
        have HB1 := Lib.hid hb1
        have HXF := Lib.hid hxf
        clear hb1 hxf d0 d1 d2 d3 d4 d5 dl hk8n hk9n
        have HWF : Hid (Chg S0 w wf) := Lib.hid ((((((HWR.out.ext' HXB.out).ext' HXC.out).far HCD.out (fun j hj => .inr (by have := HBB.out; omega))).ext' HXE.out)).ext' HXF.out)
        have HOK := Lib.hid (vstF_len HER.out)
        have HOS := Lib.hid (Leg.ok_spec HOK.out.1)
        have HSZ : Hid (B + 1 < k12 ∧ k12 < wf.heap.size ∧ w.heap.size = B ∧ wr.heap.size ≤ k8 ∧ wb.heap.size ≤ k9 ∧ wr.heap.size ≤ wf.heap.size ∧ w1.heap.size ≤ wr.heap.size ∧ k12 < B1) := Lib.hid (by
          have h1 := HTD.out.lt
          have h2 := HK12.out
          have h3 := K12.out.lt
          have h4 := HXF.out.size
          have h5 := HBB.out
          have h6 := HK8.out
          have h7 := HK9.out
          have h8 := HXB.out.size
          have h9 := HXC.out.size
          have h10 := HCD.out.size
          have h11 := HXE.out.size
          have h12 := HI.out.chg.size
          refine ⟨by omega, by omega, by omega, by omega, by omega, by omega, by omega, by omega⟩)
        gi_wp2
        have HSEQ := Lib.hid (goals_seq (fun q => q = B + 1 ∨ q = k12) 7 l.start l.gin l.gout (.slice lba l.beds.length lbc) l.scores lsa lsc l.won B1 wf ⟨_, _, _, rfl⟩ HB1.out ((HLR.out.scores.below (fun q hq => .inr (by have h := HSZ.out; omega))).keep (Kc.of_chg (HWF.out.mono (fun _ _ h => h.elim)))) (by have := HOS.out; omega) (by have h := HSZ.out; rintro q (rfl | rfl) <;> (left; omega)) (by have h := HSZ.out; omega))
        refine wpIn_rangeFunc_w (α := Sg) (by decide) (gf := 79) (fb := #[]) (lb := #[.pointer (some ⟨B1, 0, none⟩)]) rfl enters_goals1 HSEQ.out Kc.trans (fun W l o o' _ h ho _ => Kc.put _ W l o o' h ho) (fun _ => rfl)
          (OfV most l xs (oneMore t) (B + 1) k12 wf) (fun _ _ _ => False) (OfV.abc (by have h := HSZ.out; omega) (by have h := HSZ.out; omega)) (fun _ _ _ _ _ h => h.elim)
          ?hV ?h0 (fun x => OfA (fun k14 => #[.slice (some ⟨bb, bo, none⟩) ls.length lc, .int .i64 most, undef, .pointer (some ⟨B, 0, none⟩), .pointer (some ⟨B + 1, 0, none⟩), .int .i64 0, .int .i64 0, .int .i64 k, .pointer (some ⟨k8, 0, none⟩), .pointer (some ⟨k9, 0, none⟩), .int .i64 av, .int .i64 0, .pointer (some ⟨k12, 0, none⟩), x13, .pointer (some ⟨k14, 0, none⟩), .slice (some ⟨bb, bo, none⟩) ls.length lc, .int .i64 ls.length, .bool false, undef, .slice (some ⟨bb, bo, none⟩) ls.length lc, .int .i64 ls.length, .int .i64 k, .bool true, .int .i64 k, .pointer (some ⟨bb, bo + k * 6, none⟩), .agg #[.int .i64 l.start, .int .i64 l.gin, .int .i64 l.gout, .slice lba l.beds.length lbc, .slice lsa l.scores.length lsc, .bool l.won], .tuple #[.slice xa xs.length xc, .int .i64 av, .int .i64 0], .agg #[.int .i64 l.start, .int .i64 l.gin, .int .i64 l.gout, .slice lba l.beds.length lbc, .slice lsa l.scores.length lsc, .bool l.won], .tuple #[.slice xa xs.length xc, .int .i64 av, .int .i64 0], .slice xa xs.length xc, .int .i64 av, .int .i64 0, .int .i64 0, .bool false, x34, x35, x36, .pointer (some ⟨B + 1, 0, none⟩), .pointer (some ⟨B + 1, 0, none⟩), .int .i64 t.legs, .int .i64 (wrap64 (t.legs + 1)), .pointer (some ⟨B + 1, 0, none⟩), .pointer (some ⟨B + 1, 0, none⟩), .agg #[.int .i64 l.start, .int .i64 l.gin, .int .i64 l.gout, .slice lba l.beds.length lbc, .slice lsa l.scores.length lsc, .bool l.won], .func (.func 79) #[] #[.pointer (some ⟨B1, 0, none⟩)], .agg #[.int .i64 x.s.left, .bool x.s.inn], .agg #[.int .i64 x.g.score, .bool x.g.wins], x47, x48, x49, x50, x51, x52, x53, x54, x55, x56, x57, x58, x59]) wf.heap.size x) (fun x => OfA.abc _ _ x) ?assign ?body ?done (fun _ _ _ _ _ _ h => h.elim)
        case hV =>
          rintro pre x u A C row ⟨h1, h2⟩ hg hr
          exact ⟨h1, Nat.le_trans h2 hg.size⟩
        case h0 => exact ⟨K12.out.ext HXF.out, (HTD.out.ext HXE.out).ext HXF.out, Chg.refl _ _⟩
        case assign =>
          intro lp pre x W K hi hv hK
          have HI2 := Lib.hid hi
          have HV2 := Lib.hid hv
          have HKK := Lib.hid hK
          clear hi hv hK
          obtain ⟨⟨sl, si⟩, ⟨gs, gw⟩⟩ := x
          dsimp only [Sd.agg, Gl.agg]
          gi_wp2
          have hx : Ext W (W.alloc (.cells #[.int .i64 gs, .bool gw] 121)) := (Ext.refl W).alloc _
          have hvs := HV2.out.2
          exact HKK.out _ _ (kf_chg (hx.chg S0) (fun k hk => hk.elim)) (Kc.of_ext hx) ⟨HI2.out.k.ext hx, HI2.out.tot.ext hx, HI2.out.chg.ext' hx⟩ ⟨HV2.out.1, Nat.le_trans hvs hx.size⟩ ⟨_, rfl, hvs, Blk.new _ _ _⟩
        case body =>
          rintro lp pre x a' W hi ⟨⟨j, hj, hpre, hx⟩, hsz⟩ ⟨k14, rfl, hk14, hb14⟩
          have hlen : pre.length = j := by rw [hpre, goT_len]
          have HIV := Lib.hid hi
          have HJ := Lib.hid (And.intro hj (And.intro hlen hx))
          have HWS := Lib.hid hsz
          have K14 := Lib.hid hb14
          have HK14 := Lib.hid hk14
          obtain ⟨TV, hTV⟩ : ∃ y, legT most l xs (oneMore t) pre.length = y := ⟨_, rfl⟩
          have HTV := Lib.hid hTV
          have HNX : Hid (legT most l xs (oneMore t) (pre ++ [x]).length = if (pre.length : Int) < most then sumS TV (xs.getD pre.length noEx) x.g else TV) := Lib.hid (by
            rw [show (pre ++ [x]).length = pre.length + 1 by simp, ← hTV, hx, ← hlen]
            rfl)
          clear hi hj hpre hx hsz hk14 hb14 hlen
          have HBT : Hid (Blk W (B + 1) TV.cells) := Lib.hid (by rw [← HTV.out]; exact HIV.out.tot)
          clear hTV
          obtain ⟨⟨sl, si⟩, ⟨gs, gw⟩⟩ := x
          simp only at K14
          have hdj : ∀ q, (q = k9 ∨ q = B ∨ q = k8) → ¬ (q = B + 1 ∨ q = k12) := by
            have h := HSZ.out
            have h1 := HT4.out.lt
            have h2 := K9e.out.lt
            have h3 := HK9.out
            have h4 := HK12.out
            have h5 := K9.out.lt
            have h6 := HCD.out.size
            have h7 := K8c.out.lt
            have h8 := HK8.out
            have h9 := HI.out.tot.lt
            rintro q (rfl | rfl | rfl) <;> omega
          have HDJ := Lib.hid hdj
          have h9w : Blk W k9 #[.slice xa xs.length xc] := (K9e.out.ext HXF.out).chg HIV.out.chg (hdj _ (.inl rfl))
          have H9W := Lib.hid h9w
          have h3w : Blk W B #[.int .i64 most] := (((((((H3.out.chg HI.out.chg (by omega)).ext HXB.out).ext HXC.out).chg HCD.out (by omega)).ext HXE.out).ext HXF.out)).chg HIV.out.chg (hdj _ (.inr (.inl rfl)))
          have H3W := Lib.hid h3w
          clear hdj h9w h3w
          have a12 := HIV.out.k.cell 0 (v := .int .i64 pre.length) rfl
          have a12l := HIV.out.k.lt
          have a12f := HIV.out.k.frozen 0
          have a3 := H3W.out.cell 0 (v := .int .i64 most) rfl
          have a3l := H3W.out.lt
          have hpl : pre.length ≤ 1000 := by have h1 := HJ.out; have h2 := HOS.out; omega
          have HPL := Lib.hid hpl
          have hw1' : wrap64 ((pre.length : Int) + 1) = (pre.length : Int) + 1 := wrap64_in' ⟨by omega, by omega⟩
          cases hmo : decide ((pre.length : Int) < most)
          · have hmo' : ¬ (pre.length : Int) < most := of_decide_eq_false hmo
            gi_wp2
            have hq12 := one_set HIV.out.k (.int .i64 ((pre.length : Int) + 1))
            have hqc := one_chg (· = k12) W (b := k12) rfl (.int .i64 ((pre.length : Int) + 1))
            have hsz' := HSZ.out
            refine ⟨kf_chg hqc (by rintro q rfl; exact hsz'.2.1), Kc.of_chg (hqc.mono (fun q _ h => .inr h)), ⟨by rw [show (((pre ++ [(⟨⟨sl, si⟩, ⟨gs, gw⟩⟩ : Sg)]).length : Nat) : Int) = (pre.length : Int) + 1 by simp]; exact hq12, ?_, HIV.out.chg.trans (hqc.mono (fun q _ h => .inr h))⟩⟩
            rw [HNX.out, if_neg (by omega)]
            exact HBT.out.chg hqc (by omega)
          · have hmo' : (pre.length : Int) < most := of_decide_eq_true hmo
            have hin : pre.length < xs.length := by have h1 := HOK.out.2; rw [HXS.out] at h1; have h2 := HJ.out; omega
            obtain ⟨xg, xc', exv, hxb, hxl, hxcell⟩ := HV.out.at pre.length hin
            obtain ⟨rfl, rfl⟩ : xa = some ⟨xg, 0, none⟩ ∧ xc = xc' := by cases exv; exact ⟨rfl, rfl⟩
            obtain ⟨xe, hxe⟩ : ∃ y, xs[pre.length] = y := ⟨_, rfl⟩
            rw [hxe] at hxcell
            have hxd : xs.getD pre.length noEx = xe := by rw [← hxe]; simp [hin]
            have HXD := Lib.hid hxd
            have hgne : ¬ xg = B + 1 ∧ ¬ xg = k12 := by
              have h := HSZ.out
              have h1 := HXA.out.size
              have h2 := HI.out.tot.lt
              have h3 := HK12.out
              have h4 := HXC.out.size
              have h5 := HCD.out.size
              exact ⟨by omega, by omega⟩
            have HXW : Hid (∀ (jj : Nat) (u : Value), xe.four[jj]? = some u → W.cell? ⟨xg, pre.length * 4 + jj, none⟩ = some u) := Lib.hid (fun jj u hu =>
              HIV.out.chg.cell (HXF.out.cell (HXE.out.cell (HCD.out.cell (HXC.out.cell (hxcell jj u hu)) hgne.1))) (fun e => by rcases e with e | e; exact hgne.1 e; exact hgne.2 e))
            have hxWl : xg < W.heap.size := lt_of_cell (HXW.out 0 (.int .i64 xe.dl) rfl)
            have HGN := Lib.hid hgne
            clear exv hxcell hxe hgne hxd
            have hk14n : ¬ k14 = B + 1 := by have h := HSZ.out; have h1 := HK14.out; omega
            have k12n : ¬ k12 = B + 1 := by have h := HSZ.out; omega
            have k9n : ¬ k9 = B + 1 := fun e => HDJ.out k9 (.inl rfl) (.inl e)
            have y0 : ∀ y : Lat (fun b _ => b = B + 1) W, y.world.cell? ⟨k9, 0, none⟩ = some (.slice (some ⟨xg, 0, none⟩) xs.length xc) := fun y => (H9W.out.chg y.chg (by rintro ⟨_, e⟩; exact k9n e)).cell 0 rfl
            have y1 : ∀ y : Lat (fun b _ => b = B + 1) W, y.world.cell? ⟨k12, 0, none⟩ = some (.int .i64 pre.length) := fun y => (HIV.out.k.chg y.chg (by rintro ⟨_, e⟩; exact k12n e)).cell 0 rfl
            have y2 : ∀ y : Lat (fun b _ => b = B + 1) W, y.world.cell? ⟨k14, 0, none⟩ = some (.int .i64 gs) := fun y => (K14.out.chg y.chg (by rintro ⟨_, e⟩; exact hk14n e)).cell 0 rfl
            have y3 : ∀ y : Lat (fun b _ => b = B + 1) W, y.world.cell? ⟨k14, 1, none⟩ = some (.bool gw) := fun y => (K14.out.chg y.chg (by rintro ⟨_, e⟩; exact hk14n e)).cell 1 rfl
            have x0 : ∀ y : Lat (fun b _ => b = B + 1) W, y.world.cell? ⟨xg, pre.length * 4, none⟩ = some (.int .i64 xe.dl) := fun y => y.chg.cell (HXW.out 0 _ rfl) (by rintro ⟨_, e⟩; exact HGN.out.1 e)
            have x1 : ∀ y : Lat (fun b _ => b = B + 1) W, y.world.cell? ⟨xg, pre.length * 4 + 1, none⟩ = some (.int .i64 xe.dh) := fun y => y.chg.cell (HXW.out 1 _ rfl) (by rintro ⟨_, e⟩; exact HGN.out.1 e)
            have x2 : ∀ y : Lat (fun b _ => b = B + 1) W, y.world.cell? ⟨xg, pre.length * 4 + 2, none⟩ = some (.int .i64 xe.tl) := fun y => y.chg.cell (HXW.out 2 _ rfl) (by rintro ⟨_, e⟩; exact HGN.out.1 e)
            have x3 : ∀ y : Lat (fun b _ => b = B + 1) W, y.world.cell? ⟨xg, pre.length * 4 + 3, none⟩ = some (.int .i64 xe.th) := fun y => y.chg.cell (HXW.out 3 _ rfl) (by rintro ⟨_, e⟩; exact HGN.out.1 e)
            have yl9 := H9W.out.lt
            have yl14 := K14.out.lt
            have HPL2 := Lib.hid hin
            clear hk14n k12n k9n
            gi_upto_region 14 with fail
            refine wpIn_lat_r lp (by kernel_rfl) (by kernel_rfl) (fun b _ => b = B + 1) (fun k => k == 5) (RsIs [(5, .tuple #[])]) (fun L _ W => Blk W (B + 1) (bif L 5 then (sumS TV xe ⟨gs, gw⟩).cells else TV.cells)) (by kernel_rfl)
              (fun k hk => by
                have : k = 5 := by simpa using hk
                subst this
                decide)
              (fun L L' u w' h hg => by rw [h 5 (by rfl)]; exact hg) (fun L u a b h hx => h.ext hx) (rsW [(5, .tuple #[])]) (fun k _ => rsW_ok _ k) (HBT.out.ext (Ext.refl W).drew) ?_
            intro T hT hne2 u hu
            have e5 : u 5 = .tuple #[] := hu 5 rfl
            refine lx_next 5 (by rfl) (by decide) ?_
            dsimp only [List.take, List.drop]
            repeat (go_big_quiet_step (fail))
            refine wpQuiet_nil ?_
            refine lx_loud (by rfl) (by kernel_rfl) ?_ (fun K hK => ?_)
            · intro L w4 hL hd hcl hC hs
              obtain ⟨y, rfl⟩ := hC
              rw [hL] at hs
              have HS : Hid (Blk y.world (B + 1) TV.cells) := Lib.hid hs
              clear hs hL hd hcl
              go_wp2_with fail
              refine (mean_tadd (B + 1) TV xe ⟨gs, gw⟩ y.world HS.out).mono ?_
              rintro e w5 ⟨rfl, hb5, hc5⟩
              go_wp2
              exact ⟨rfl, ⟨y.chgd hc5 (fun b hb => .inr fun _ => hb), rfl⟩, hb5⟩
            rw [e5]
            go_simp
            with_reducible refine hK _ ?_
            clear hK K
            refine lx_nil ?_
            intro y hs
            have HBN : Hid (Blk y.world (B + 1) (sumS TV xe ⟨gs, gw⟩).cells) := Lib.hid hs
            have HCN : Hid (Chg (· = B + 1) W y.world) := Lib.hid (y.chg.mono (by rintro q - ⟨_, e⟩; exact e))
            clear hs hu hT hne2 e5 y0 y1 y2 y3 x0 x1 x2 x3 yl9 yl14 a12 a12l a12f a3 a3l
            generalize y.world = w9 at *
            clear y
            have hkk : Blk w9 k12 #[.int .i64 pre.length] := HIV.out.k.chg HCN.out (by have h := HSZ.out; omega)
            have HKK := Lib.hid hkk
            have a12 := hkk.cell 0 (v := .int .i64 pre.length) rfl
            have a12l := hkk.lt
            have a12f := hkk.frozen 0
            clear hkk
            gi_wp2
            have hq12 := one_set HKK.out (.int .i64 ((pre.length : Int) + 1))
            have hqc := one_chg (· = k12) w9 (b := k12) rfl (.int .i64 ((pre.length : Int) + 1))
            have hsz' := HSZ.out
            refine ⟨(kf_chg HCN.out (by rintro q rfl; omega)).trans (kf_chg hqc (by rintro q rfl; exact hsz'.2.1)), (Kc.of_chg (HCN.out.mono (fun q _ h => .inl h))).trans (Kc.of_chg (hqc.mono (fun q _ h => .inr h))), ⟨by rw [show (((pre ++ [(⟨⟨sl, si⟩, ⟨gs, gw⟩⟩ : Sg)]).length : Nat) : Int) = (pre.length : Int) + 1 by simp]; exact hq12, ?_, (HIV.out.chg.trans (HCN.out.mono (fun q _ h => .inl h))).trans (hqc.mono (fun q _ h => .inr h))⟩⟩
            rw [HNX.out, if_pos hmo', HXD.out]
            exact HBN.out.chg hqc (by omega)
        case done =>
          rintro D pre W hD rfl hi hdf
          have HDF := Lib.hid hdf
          have HIV := Lib.hid hi
          clear hi hdf
          have HTF : Hid (Blk W (B + 1) (legT most l xs (oneMore t) l.scores.length).cells) := Lib.hid (by have h := HIV.out.tot; rw [goT_len] at h; exact h)
          dsimp only
          gi_wp2
          have hsz := HSZ.out
          have hmk0 : Marks w1.heap.size W dsn := (((((((HI.out.marks.chg (S := S0) (HXB.out.chg _) (fun _ _ h => h)).chg (S := S0) (HXC.out.chg _) (fun _ _ h => h))).chg HCD.out (fun D' hD' e => by
            have h1 := (HI.out.marks.all D' hD').1
            have h2 := H4.out.lt
            have e' : D' = B + 1 := e
            omega)).chg (S := S0) (HXE.out.chg _) (fun _ _ h => h)).chg (S := S0) (HXF.out.chg _) (fun _ _ h => h))).chg HIV.out.chg (fun D' hD' e => by
            have h1 := (HI.out.marks.all D' hD').1
            have h2 := H4.out.lt
            have h3 := (Array.getElem?_eq_some_iff.1 (HI.out.marks.all D' hD').2).1
            have h4 := HK12.out
            have h5 := HXC.out.size
            have h6 := HCD.out.size
            have h7 := HXB.out.size
            rcases e with e | e <;> omega)
          refine (show (∃ _, _) ∧ _ from ⟨⟨_, _, _, _, _, _, _, _, _, _, _, _, _, _, _, _, _, _, _, _, _, _, _, _, _, _, _, _, _, _, _, _, _, _, _, _, _, _, _, _, _, _, _, _, _, _, k + 1, legT most l xs (oneMore t) l.scores.length, D :: dsn, ⟨hlt, ?_, HTF.out, ?_, ?_⟩, rfl⟩, ?_⟩)
          · have h := ofG_ok (most := most) (t := t) hlt (by rw [HLE.out]; exact HER.out)
            rw [HLE.out, HXS.out] at h
            rw [HI.out.res, h]
          · exact ((((((HI.out.chg.ext' HXB.out).ext' HXC.out).trans HCD.out).ext' HXE.out).ext' HXF.out)).far HIV.out.chg (fun j hj => by
              rcases hj with e | e
              · exact .inl e
              · exact .inr (by have h4 := HK12.out; have h5 := HXC.out.size; have h6 := HCD.out.size; have h7 := HXB.out.size; omega))
          · refine hmk0.cons (fun hD' => ?_) (by omega) HDF.out
            have h3 := (Array.getElem?_eq_some_iff.1 (HI.out.marks.all D hD').2).1
            omega
          · show ls.length - (intOf (.int .i64 ((k : Int) + 1))).toNat < ls.length - (intOf (.int .i64 (k : Int))).toNat
            simp [intOf]
            omega
      · gi_upto_region 8 with fail
        obtain ⟨wc, hwc⟩ : ∃ y, y = wb.alloc (.cells #[.slice xa xs.length xc] 34) := ⟨_, rfl⟩
        obtain ⟨k9, hk9⟩ : ∃ y, y = wb.heap.size := ⟨_, rfl⟩
        rw [← hwc, ← hk9]
        have HXC : Hid (Ext wb wc) := Lib.hid (by rw [hwc]; exact (Ext.refl wb).alloc _)
        have K9 : Hid (Blk wc k9 #[.slice xa xs.length xc]) := Lib.hid (by rw [hwc, hk9]; exact Blk.new _ _ _)
        have HK9 := Lib.hid hk9
        have HT4c := Lib.hid (HT4.out.ext HXC.out)
        have K8c := Lib.hid (K8b.out.ext HXC.out)
        clear hwc hk9
        have HRE2 : Hid (RV = (tot0, (k : Int), er)) := Lib.hid (by
          rw [HRE.out, HI.out.res, ofG_bad hlt (by rw [HLE.out, HER.out]; exact he0), HLE.out, HER.out])
        have z0 := HT4c.out.cell 0 (v := .int .i64 t.legs) rfl
        have zf0 := HT4c.out.frozen 0
        have z1 := HT4c.out.cell 1 (v := .int .i64 t.won) rfl
        have zf1 := HT4c.out.frozen 1
        have z2 := HT4c.out.cell 2 (v := .int .i64 t.visits) rfl
        have zf2 := HT4c.out.frozen 2
        have z3 := HT4c.out.cell 3 (v := .int .i64 t.points) rfl
        have zf3 := HT4c.out.frozen 3
        have z4 := HT4c.out.cell 4 (v := .int .i64 t.darts.lo) rfl
        have zf4 := HT4c.out.frozen 4
        have z5 := HT4c.out.cell 5 (v := .int .i64 t.darts.hi) rfl
        have zf5 := HT4c.out.frozen 5
        have z6 := HT4c.out.cell 6 (v := .int .i64 t.tried.lo) rfl
        have zf6 := HT4c.out.frozen 6
        have z7 := HT4c.out.cell 7 (v := .int .i64 t.tried.hi) rfl
        have zf7 := HT4c.out.frozen 7
        have z8 := HT4c.out.cell 8 (v := .int .i64 t.tons) rfl
        have zf8 := HT4c.out.frozen 8
        have z9 := HT4c.out.cell 9 (v := .int .i64 t.highs) rfl
        have zf9 := HT4c.out.frozen 9
        have z10 := HT4c.out.cell 10 (v := .int .i64 t.tops) rfl
        have zf10 := HT4c.out.frozen 10
        have z11 := HT4c.out.cell 11 (v := .int .i64 t.best) rfl
        have zf11 := HT4c.out.frozen 11
        have zl := HT4c.out.lt
        gi_wp2
        have hT := twl_set (b := B + 1) HT4c.out (.int .i64 0) (.int .i64 0) (.int .i64 0) (.int .i64 0) (.int .i64 0) (.int .i64 0) (.int .i64 0) (.int .i64 0) (.int .i64 0) (.int .i64 0) (.int .i64 0) (.int .i64 0)
        have hC := twl_chg (· = B + 1) wc (b := B + 1) rfl (.int .i64 0) (.int .i64 0) (.int .i64 0) (.int .i64 0) (.int .i64 0) (.int .i64 0) (.int .i64 0) (.int .i64 0) (.int .i64 0) (.int .i64 0) (.int .i64 0) (.int .i64 0)
        generalize World.setCell _ _ _ = W3 at hT hC ⊢
        have hmk : Marks w1.heap.size W3 dsn := (((HI.out.marks.chg (S := S0) (HXB.out.chg _) (fun _ _ h => h)).chg (S := S0) (HXC.out.chg _) (fun _ _ h => h))).chg hC (fun D hD e => by
          have h1 := (HI.out.marks.all D hD).1
          have h2 := H4.out.lt
          have e' : D = B + 1 := e
          omega)
        show LeavesInM _ _ _ _ _ _ (dsn.map markOf) .returning _
        refine ret_mN (v := .tuple #[.agg tot0.cells, .int .i64 k, .int .i64 er]) (lo := w1.heap.size) (w := W3) dsn W3 .refl hmk ?_
        intro W' hsh
        have z0 := (hsh.blk hT).cell 0 (v := .int .i64 0) rfl
        have z1 := (hsh.blk hT).cell 1 (v := .int .i64 0) rfl
        have z2 := (hsh.blk hT).cell 2 (v := .int .i64 0) rfl
        have z3 := (hsh.blk hT).cell 3 (v := .int .i64 0) rfl
        have z4 := (hsh.blk hT).cell 4 (v := .int .i64 0) rfl
        have z5 := (hsh.blk hT).cell 5 (v := .int .i64 0) rfl
        have z6 := (hsh.blk hT).cell 6 (v := .int .i64 0) rfl
        have z7 := (hsh.blk hT).cell 7 (v := .int .i64 0) rfl
        have z8 := (hsh.blk hT).cell 8 (v := .int .i64 0) rfl
        have z9 := (hsh.blk hT).cell 9 (v := .int .i64 0) rfl
        have z10 := (hsh.blk hT).cell 10 (v := .int .i64 0) rfl
        have z11 := (hsh.blk hT).cell 11 (v := .int .i64 0) rfl
        refine ⟨by simp [results, Try.results74, go_sem, z0, z1, z2, z3, z4, z5, z6, z7, z8, z9, z10, z11]; rfl, by rw [HRE2.out], ?_⟩
        refine Chg.to_ext (Ext.refl w) (hsh.chg ((((HWR.out.ext' HXB.out).ext' HXC.out).mono (T := fun q => w.heap.size ≤ q) (fun _ _ h => h.elim)).trans (hC.mono (fun q _ h => by have := HBB.out; have h' : q = B + 1 := h; show w.heap.size ≤ q; omega))) (Nat.le_trans HX1.out.size (Nat.le_refl _))) (fun _ h => h)
    · obtain rfl : ls.length = k := by have := HI.out.le; omega
      have HRE2 : Hid (RV = (t, 0, 0)) := Lib.hid (by
        rw [HRE.out, HI.out.res, List.drop_length]
        rfl)
      have HT4 := Lib.hid HI.out.tot
      unfold Tot.cells at HT4
      have z0 := HT4.out.cell 0 (v := .int .i64 t.legs) rfl
      have zf0 := HT4.out.frozen 0
      have z1 := HT4.out.cell 1 (v := .int .i64 t.won) rfl
      have zf1 := HT4.out.frozen 1
      have z2 := HT4.out.cell 2 (v := .int .i64 t.visits) rfl
      have zf2 := HT4.out.frozen 2
      have z3 := HT4.out.cell 3 (v := .int .i64 t.points) rfl
      have zf3 := HT4.out.frozen 3
      have z4 := HT4.out.cell 4 (v := .int .i64 t.darts.lo) rfl
      have zf4 := HT4.out.frozen 4
      have z5 := HT4.out.cell 5 (v := .int .i64 t.darts.hi) rfl
      have zf5 := HT4.out.frozen 5
      have z6 := HT4.out.cell 6 (v := .int .i64 t.tried.lo) rfl
      have zf6 := HT4.out.frozen 6
      have z7 := HT4.out.cell 7 (v := .int .i64 t.tried.hi) rfl
      have zf7 := HT4.out.frozen 7
      have z8 := HT4.out.cell 8 (v := .int .i64 t.tons) rfl
      have zf8 := HT4.out.frozen 8
      have z9 := HT4.out.cell 9 (v := .int .i64 t.highs) rfl
      have zf9 := HT4.out.frozen 9
      have z10 := HT4.out.cell 10 (v := .int .i64 t.tops) rfl
      have zf10 := HT4.out.frozen 10
      have z11 := HT4.out.cell 11 (v := .int .i64 t.best) rfl
      have zf11 := HT4.out.frozen 11
      have zl := HT4.out.lt
      gi_wp2
      have hT := twl_set (b := B + 1) HT4.out (.int .i64 t.legs) (.int .i64 t.won) (.int .i64 t.visits) (.int .i64 t.points) (.int .i64 t.darts.lo) (.int .i64 t.darts.hi) (.int .i64 t.tried.lo) (.int .i64 t.tried.hi) (.int .i64 t.tons) (.int .i64 t.highs) (.int .i64 t.tops) (.int .i64 t.best)
      have hC := twl_chg (· = B + 1) wr (b := B + 1) rfl (.int .i64 t.legs) (.int .i64 t.won) (.int .i64 t.visits) (.int .i64 t.points) (.int .i64 t.darts.lo) (.int .i64 t.darts.hi) (.int .i64 t.tried.lo) (.int .i64 t.tried.hi) (.int .i64 t.tons) (.int .i64 t.highs) (.int .i64 t.tops) (.int .i64 t.best)
      generalize World.setCell _ _ _ = W3 at hT hC ⊢
      have hmk : Marks w1.heap.size W3 dsn := HI.out.marks.chg hC (fun D hD e => by
        have h1 := (HI.out.marks.all D hD).1
        have h2 := H4.out.lt
        have e' : D = B + 1 := e
        omega)
      show LeavesInM _ _ _ _ _ _ (dsn.map markOf) .returning _
      refine ret_mN (v := .tuple #[.agg t.cells, .int .i64 0, .int .i64 0]) (lo := w1.heap.size) (w := W3) dsn W3 .refl hmk ?_
      intro W' hsh
      have z0 := (hsh.blk hT).cell 0 (v := .int .i64 t.legs) rfl
      have z1 := (hsh.blk hT).cell 1 (v := .int .i64 t.won) rfl
      have z2 := (hsh.blk hT).cell 2 (v := .int .i64 t.visits) rfl
      have z3 := (hsh.blk hT).cell 3 (v := .int .i64 t.points) rfl
      have z4 := (hsh.blk hT).cell 4 (v := .int .i64 t.darts.lo) rfl
      have z5 := (hsh.blk hT).cell 5 (v := .int .i64 t.darts.hi) rfl
      have z6 := (hsh.blk hT).cell 6 (v := .int .i64 t.tried.lo) rfl
      have z7 := (hsh.blk hT).cell 7 (v := .int .i64 t.tried.hi) rfl
      have z8 := (hsh.blk hT).cell 8 (v := .int .i64 t.tons) rfl
      have z9 := (hsh.blk hT).cell 9 (v := .int .i64 t.highs) rfl
      have z10 := (hsh.blk hT).cell 10 (v := .int .i64 t.tops) rfl
      have z11 := (hsh.blk hT).cell 11 (v := .int .i64 t.best) rfl
      refine ⟨by simp [results, Try.results74, go_sem, z0, z1, z2, z3, z4, z5, z6, z7, z8, z9, z10, z11]; rfl, by rw [HRE2.out], ?_⟩
      refine Chg.to_ext (Ext.refl w) (hsh.chg (((HX1.out.chg (fun q => w.heap.size ≤ q)).trans (HI.out.chg.mono (fun q _ h => by have := HBB.out; have h' : q = B + 1 := h; show w.heap.size ≤ q; omega))).trans (hC.mono (fun q _ h => by have := HBB.out; have h' : q = B + 1 := h; show w.heap.size ≤ q; omega))) HX1.out.size) (fun _ h => h)
end Go.Proofs.Ytmopadnkjlodnaa
namespace Go.Proofs.Ytmopadnkjlodnaa
open Go.RowKit Go.BigFrame
attribute [local go_sem] Oper.semAt_some Later.cell Later.frozen
set_option maxRecDepth 100000 in
set_option maxHeartbeats 4000000 in
theorem mean_Totals (ls : List Leg) (la : Option Addr) (lc : Nat) (w : World) (hl : LegsAt w la ls) (hn : ls.length ≤ 1000000) :
    Calls Try.prog 39 #[.slice la ls.length lc] w fun e w' => e = .returned (.tuple #[.agg (ofS 100 ls).1.cells, .int .i64 (ofS 100 ls).2.1, .int .i64 (ofS 100 ls).2.2]) ∧ Ext w w' := by
  have HO := Lib.hid (fun W (hx : Ext w W) => mean_of ls la lc 100 W (hl.ext hx) hn)
  generalize ofS 100 ls = R at HO ⊢
  unfold Tot.cells at HO ⊢
  clear hl
  go_enter Try.func39, Try.ntmps39
  go_upto_region 1 with fail
  obtain ⟨wa, hwa⟩ : ∃ y, y = w.alloc (.cells #[.int .i64 0, .int .i64 0, .int .i64 0, .int .i64 0, .int .i64 0, .int .i64 0, .int .i64 0, .int .i64 0, .int .i64 0, .int .i64 0, .int .i64 0, .int .i64 0] 55) := ⟨_, rfl⟩
  rw [← hwa]
  have HXA : Hid (Ext w wa) := Lib.hid (by rw [hwa]; exact (Ext.refl w).alloc _)
  have HBA : Hid (Blk wa w.heap.size #[.int .i64 0, .int .i64 0, .int .i64 0, .int .i64 0, .int .i64 0, .int .i64 0, .int .i64 0, .int .i64 0, .int .i64 0, .int .i64 0, .int .i64 0, .int .i64 0]) := Lib.hid (by rw [hwa]; exact Blk.new _ _ _)
  clear hwa
  go_wp2_with fail
  refine (HO.out wa HXA.out).mono ?_
  rintro e w1 ⟨rfl, hx⟩
  have HX := Lib.hid hx
  clear hx
  go_upto_region 2 with fail
  generalize hw2 : World.alloc w1 _ = w2
  have HX2 : Hid (Ext w w2) := Lib.hid (by rw [← hw2]; exact (HXA.out.trans HX.out).alloc _)
  have H2 : Hid (Blk w2 w.heap.size #[.int .i64 0, .int .i64 0, .int .i64 0, .int .i64 0, .int .i64 0, .int .i64 0, .int .i64 0, .int .i64 0, .int .i64 0, .int .i64 0, .int .i64 0, .int .i64 0]) := Lib.hid (by rw [← hw2]; exact (HBA.out.ext HX.out).alloc _)
  have H5 : Hid (Blk w2 w1.heap.size #[.int .i64 R.1.legs, .int .i64 R.1.won, .int .i64 R.1.visits, .int .i64 R.1.points, .int .i64 R.1.darts.lo, .int .i64 R.1.darts.hi, .int .i64 R.1.tried.lo, .int .i64 R.1.tried.hi, .int .i64 R.1.tons, .int .i64 R.1.highs, .int .i64 R.1.tops, .int .i64 R.1.best]) := Lib.hid (by rw [← hw2]; exact Blk.new _ _ _)
  clear hw2
  have z0 := H2.out.cell 0 (v := .int .i64 0) rfl; have zf0 := H2.out.frozen 0; have z1 := H2.out.cell 1 (v := .int .i64 0) rfl; have zf1 := H2.out.frozen 1; have z2 := H2.out.cell 2 (v := .int .i64 0) rfl; have zf2 := H2.out.frozen 2; have z3 := H2.out.cell 3 (v := .int .i64 0) rfl; have zf3 := H2.out.frozen 3; have z4 := H2.out.cell 4 (v := .int .i64 0) rfl; have zf4 := H2.out.frozen 4; have z5 := H2.out.cell 5 (v := .int .i64 0) rfl; have zf5 := H2.out.frozen 5; have z6 := H2.out.cell 6 (v := .int .i64 0) rfl; have zf6 := H2.out.frozen 6; have z7 := H2.out.cell 7 (v := .int .i64 0) rfl; have zf7 := H2.out.frozen 7; have z8 := H2.out.cell 8 (v := .int .i64 0) rfl; have zf8 := H2.out.frozen 8; have z9 := H2.out.cell 9 (v := .int .i64 0) rfl; have zf9 := H2.out.frozen 9; have z10 := H2.out.cell 10 (v := .int .i64 0) rfl; have zf10 := H2.out.frozen 10; have z11 := H2.out.cell 11 (v := .int .i64 0) rfl; have zf11 := H2.out.frozen 11
  have zl := H2.out.lt
  have p0 := H5.out.cell 0 (v := .int .i64 R.1.legs) rfl; have p1 := H5.out.cell 1 (v := .int .i64 R.1.won) rfl; have p2 := H5.out.cell 2 (v := .int .i64 R.1.visits) rfl; have p3 := H5.out.cell 3 (v := .int .i64 R.1.points) rfl; have p4 := H5.out.cell 4 (v := .int .i64 R.1.darts.lo) rfl; have p5 := H5.out.cell 5 (v := .int .i64 R.1.darts.hi) rfl; have p6 := H5.out.cell 6 (v := .int .i64 R.1.tried.lo) rfl; have p7 := H5.out.cell 7 (v := .int .i64 R.1.tried.hi) rfl; have p8 := H5.out.cell 8 (v := .int .i64 R.1.tons) rfl; have p9 := H5.out.cell 9 (v := .int .i64 R.1.highs) rfl; have p10 := H5.out.cell 10 (v := .int .i64 R.1.tops) rfl; have p11 := H5.out.cell 11 (v := .int .i64 R.1.best) rfl
  have pl := H5.out.lt
  go_wp2
  have hT := twl_set (b := w.heap.size) H2.out (.int .i64 R.1.legs) (.int .i64 R.1.won) (.int .i64 R.1.visits) (.int .i64 R.1.points) (.int .i64 R.1.darts.lo) (.int .i64 R.1.darts.hi) (.int .i64 R.1.tried.lo) (.int .i64 R.1.tried.hi) (.int .i64 R.1.tons) (.int .i64 R.1.highs) (.int .i64 R.1.tops) (.int .i64 R.1.best)
  have hC := twl_chg (· = w.heap.size) w2 (b := w.heap.size) rfl (.int .i64 R.1.legs) (.int .i64 R.1.won) (.int .i64 R.1.visits) (.int .i64 R.1.points) (.int .i64 R.1.darts.lo) (.int .i64 R.1.darts.hi) (.int .i64 R.1.tried.lo) (.int .i64 R.1.tried.hi) (.int .i64 R.1.tons) (.int .i64 R.1.highs) (.int .i64 R.1.tops) (.int .i64 R.1.best)
  generalize World.setCell _ _ _ = W3 at hT hC ⊢
  clear z0 zf0 p0 z1 zf1 p1 z2 zf2 p2 z3 zf3 p3 z4 zf4 p4 z5 zf5 p5 z6 zf6 p6 z7 zf7 p7 z8 zf8 p8 z9 zf9 p9 z10 zf10 p10 z11 zf11 p11
  have q0 := hT.cell 0 (v := .int .i64 R.1.legs) rfl; have q1 := hT.cell 1 (v := .int .i64 R.1.won) rfl; have q2 := hT.cell 2 (v := .int .i64 R.1.visits) rfl; have q3 := hT.cell 3 (v := .int .i64 R.1.points) rfl; have q4 := hT.cell 4 (v := .int .i64 R.1.darts.lo) rfl; have q5 := hT.cell 5 (v := .int .i64 R.1.darts.hi) rfl; have q6 := hT.cell 6 (v := .int .i64 R.1.tried.lo) rfl; have q7 := hT.cell 7 (v := .int .i64 R.1.tried.hi) rfl; have q8 := hT.cell 8 (v := .int .i64 R.1.tons) rfl; have q9 := hT.cell 9 (v := .int .i64 R.1.highs) rfl; have q10 := hT.cell 10 (v := .int .i64 R.1.tops) rfl; have q11 := hT.cell 11 (v := .int .i64 R.1.best) rfl
  refine bodyPost_ret (v := .tuple #[.agg #[.int .i64 R.1.legs, .int .i64 R.1.won, .int .i64 R.1.visits, .int .i64 R.1.points, .int .i64 R.1.darts.lo, .int .i64 R.1.darts.hi, .int .i64 R.1.tried.lo, .int .i64 R.1.tried.hi, .int .i64 R.1.tons, .int .i64 R.1.highs, .int .i64 R.1.tops, .int .i64 R.1.best], .int .i64 R.2.1, .int .i64 R.2.2]) (by simp [results, Try.results39, go_sem, q0, q1, q2, q3, q4, q5, q6, q7, q8, q9, q10, q11]) rfl ⟨rfl, Chg.to_ext HX2.out hC (by rintro i rfl; exact Nat.le_refl _)⟩
set_option maxRecDepth 100000 in
set_option maxHeartbeats 4000000 in
theorem mean_First (ls : List Leg) (la : Option Addr) (lc : Nat) (w : World) (hl : LegsAt w la ls) (hn : ls.length ≤ 1000000) :
    Calls Try.prog 42 #[.slice la ls.length lc] w fun e w' => e = .returned (.tuple #[.agg (ofS 3 ls).1.cells, .int .i64 (ofS 3 ls).2.1, .int .i64 (ofS 3 ls).2.2]) ∧ Ext w w' := by
  have HO := Lib.hid (fun W (hx : Ext w W) => mean_of ls la lc 3 W (hl.ext hx) hn)
  generalize ofS 3 ls = R at HO ⊢
  unfold Tot.cells at HO ⊢
  clear hl
  go_enter Try.func42, Try.ntmps42
  go_upto_region 1 with fail
  obtain ⟨wa, hwa⟩ : ∃ y, y = w.alloc (.cells #[.int .i64 0, .int .i64 0, .int .i64 0, .int .i64 0, .int .i64 0, .int .i64 0, .int .i64 0, .int .i64 0, .int .i64 0, .int .i64 0, .int .i64 0, .int .i64 0] 55) := ⟨_, rfl⟩
  rw [← hwa]
  have HXA : Hid (Ext w wa) := Lib.hid (by rw [hwa]; exact (Ext.refl w).alloc _)
  have HBA : Hid (Blk wa w.heap.size #[.int .i64 0, .int .i64 0, .int .i64 0, .int .i64 0, .int .i64 0, .int .i64 0, .int .i64 0, .int .i64 0, .int .i64 0, .int .i64 0, .int .i64 0, .int .i64 0]) := Lib.hid (by rw [hwa]; exact Blk.new _ _ _)
  clear hwa
  go_wp2_with fail
  refine (HO.out wa HXA.out).mono ?_
  rintro e w1 ⟨rfl, hx⟩
  have HX := Lib.hid hx
  clear hx
  go_upto_region 2 with fail
  generalize hw2 : World.alloc w1 _ = w2
  have HX2 : Hid (Ext w w2) := Lib.hid (by rw [← hw2]; exact (HXA.out.trans HX.out).alloc _)
  have H2 : Hid (Blk w2 w.heap.size #[.int .i64 0, .int .i64 0, .int .i64 0, .int .i64 0, .int .i64 0, .int .i64 0, .int .i64 0, .int .i64 0, .int .i64 0, .int .i64 0, .int .i64 0, .int .i64 0]) := Lib.hid (by rw [← hw2]; exact (HBA.out.ext HX.out).alloc _)
  have H5 : Hid (Blk w2 w1.heap.size #[.int .i64 R.1.legs, .int .i64 R.1.won, .int .i64 R.1.visits, .int .i64 R.1.points, .int .i64 R.1.darts.lo, .int .i64 R.1.darts.hi, .int .i64 R.1.tried.lo, .int .i64 R.1.tried.hi, .int .i64 R.1.tons, .int .i64 R.1.highs, .int .i64 R.1.tops, .int .i64 R.1.best]) := Lib.hid (by rw [← hw2]; exact Blk.new _ _ _)
  clear hw2
  have z0 := H2.out.cell 0 (v := .int .i64 0) rfl; have zf0 := H2.out.frozen 0; have z1 := H2.out.cell 1 (v := .int .i64 0) rfl; have zf1 := H2.out.frozen 1; have z2 := H2.out.cell 2 (v := .int .i64 0) rfl; have zf2 := H2.out.frozen 2; have z3 := H2.out.cell 3 (v := .int .i64 0) rfl; have zf3 := H2.out.frozen 3; have z4 := H2.out.cell 4 (v := .int .i64 0) rfl; have zf4 := H2.out.frozen 4; have z5 := H2.out.cell 5 (v := .int .i64 0) rfl; have zf5 := H2.out.frozen 5; have z6 := H2.out.cell 6 (v := .int .i64 0) rfl; have zf6 := H2.out.frozen 6; have z7 := H2.out.cell 7 (v := .int .i64 0) rfl; have zf7 := H2.out.frozen 7; have z8 := H2.out.cell 8 (v := .int .i64 0) rfl; have zf8 := H2.out.frozen 8; have z9 := H2.out.cell 9 (v := .int .i64 0) rfl; have zf9 := H2.out.frozen 9; have z10 := H2.out.cell 10 (v := .int .i64 0) rfl; have zf10 := H2.out.frozen 10; have z11 := H2.out.cell 11 (v := .int .i64 0) rfl; have zf11 := H2.out.frozen 11
  have zl := H2.out.lt
  have p0 := H5.out.cell 0 (v := .int .i64 R.1.legs) rfl; have p1 := H5.out.cell 1 (v := .int .i64 R.1.won) rfl; have p2 := H5.out.cell 2 (v := .int .i64 R.1.visits) rfl; have p3 := H5.out.cell 3 (v := .int .i64 R.1.points) rfl; have p4 := H5.out.cell 4 (v := .int .i64 R.1.darts.lo) rfl; have p5 := H5.out.cell 5 (v := .int .i64 R.1.darts.hi) rfl; have p6 := H5.out.cell 6 (v := .int .i64 R.1.tried.lo) rfl; have p7 := H5.out.cell 7 (v := .int .i64 R.1.tried.hi) rfl; have p8 := H5.out.cell 8 (v := .int .i64 R.1.tons) rfl; have p9 := H5.out.cell 9 (v := .int .i64 R.1.highs) rfl; have p10 := H5.out.cell 10 (v := .int .i64 R.1.tops) rfl; have p11 := H5.out.cell 11 (v := .int .i64 R.1.best) rfl
  have pl := H5.out.lt
  go_wp2
  have hT := twl_set (b := w.heap.size) H2.out (.int .i64 R.1.legs) (.int .i64 R.1.won) (.int .i64 R.1.visits) (.int .i64 R.1.points) (.int .i64 R.1.darts.lo) (.int .i64 R.1.darts.hi) (.int .i64 R.1.tried.lo) (.int .i64 R.1.tried.hi) (.int .i64 R.1.tons) (.int .i64 R.1.highs) (.int .i64 R.1.tops) (.int .i64 R.1.best)
  have hC := twl_chg (· = w.heap.size) w2 (b := w.heap.size) rfl (.int .i64 R.1.legs) (.int .i64 R.1.won) (.int .i64 R.1.visits) (.int .i64 R.1.points) (.int .i64 R.1.darts.lo) (.int .i64 R.1.darts.hi) (.int .i64 R.1.tried.lo) (.int .i64 R.1.tried.hi) (.int .i64 R.1.tons) (.int .i64 R.1.highs) (.int .i64 R.1.tops) (.int .i64 R.1.best)
  generalize World.setCell _ _ _ = W3 at hT hC ⊢
  clear z0 zf0 p0 z1 zf1 p1 z2 zf2 p2 z3 zf3 p3 z4 zf4 p4 z5 zf5 p5 z6 zf6 p6 z7 zf7 p7 z8 zf8 p8 z9 zf9 p9 z10 zf10 p10 z11 zf11 p11
  have q0 := hT.cell 0 (v := .int .i64 R.1.legs) rfl; have q1 := hT.cell 1 (v := .int .i64 R.1.won) rfl; have q2 := hT.cell 2 (v := .int .i64 R.1.visits) rfl; have q3 := hT.cell 3 (v := .int .i64 R.1.points) rfl; have q4 := hT.cell 4 (v := .int .i64 R.1.darts.lo) rfl; have q5 := hT.cell 5 (v := .int .i64 R.1.darts.hi) rfl; have q6 := hT.cell 6 (v := .int .i64 R.1.tried.lo) rfl; have q7 := hT.cell 7 (v := .int .i64 R.1.tried.hi) rfl; have q8 := hT.cell 8 (v := .int .i64 R.1.tons) rfl; have q9 := hT.cell 9 (v := .int .i64 R.1.highs) rfl; have q10 := hT.cell 10 (v := .int .i64 R.1.tops) rfl; have q11 := hT.cell 11 (v := .int .i64 R.1.best) rfl
  refine bodyPost_ret (v := .tuple #[.agg #[.int .i64 R.1.legs, .int .i64 R.1.won, .int .i64 R.1.visits, .int .i64 R.1.points, .int .i64 R.1.darts.lo, .int .i64 R.1.darts.hi, .int .i64 R.1.tried.lo, .int .i64 R.1.tried.hi, .int .i64 R.1.tons, .int .i64 R.1.highs, .int .i64 R.1.tops, .int .i64 R.1.best], .int .i64 R.2.1, .int .i64 R.2.2]) (by simp [results, Try.results42, go_sem, q0, q1, q2, q3, q4, q5, q6, q7, q8, q9, q10, q11]) rfl ⟨rfl, Chg.to_ext HX2.out hC (by rintro i rfl; exact Nat.le_refl _)⟩
end Go.Proofs.Ytmopadnkjlodnaa
