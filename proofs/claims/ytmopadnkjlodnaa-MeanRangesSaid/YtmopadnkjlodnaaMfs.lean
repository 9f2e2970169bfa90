/-
  Package mean: a visit so far and its next dart: all that it may come to (the inner loop of from).
-/
import Derived.Test.YtmopadnkjlodnaaMfq
namespace Go.Proofs.Ytmopadnkjlodnaa
open Go.RowKit Go.BigFrame
attribute [local go_sem] Oper.semAt_some Later.cell Later.frozen Lat.cell Lat.frozen NoX
theorem chgm_grown {S : Nat → Prop} {w A B : World} {row : Option Nat} (h : Chg S w A) (hg : A.grownBy B row) (hr : ∀ r, row = some r → w.heap.size ≤ r) : Chg S w B :=
  ⟨hg.os.trans h.os, hg.tape.trans h.tape, hg.output.trans h.output, Nat.le_trans h.size hg.size, fun k hk hs => (hg.block k (Nat.lt_of_lt_of_le hk h.size) (fun e => by have := hr k e.symm; omega)).trans (h.block k hk hs)⟩
theorem MapL.grown {κ ν : Type} {ek : κ → Value} {ev : ν → Value} {A B : World} {b base : Nat} {l : List (κ × ν)} {row : Option Nat} (h : MapL ek ev A b l) (hb : b < base) (hg : A.grownBy B row) (hr : ∀ r, row = some r → base ≤ r) : MapL ek ev B b l := h.same (hg.block b h.lt (fun e => by have := hr b e.symm; omega))
theorem Blk.chgM {w W : World} {b bo nx : Nat} {cs : Array Value} {lo : List (Gl × Ex)} {ln : List (Nw × Yes)} (h : Blk w b cs) (hc : Chg (fun k => k = bo ∨ k = nx) w W) (h1 : MapL Gl.agg Ex.agg w bo lo) (h2 : MapL Nw.agg Yes.val w nx ln) : Blk W b cs :=
  h.chg hc (by obtain ⟨t, ht⟩ := h; rintro (rfl | rfl); exact h1.notCells ht; exact h2.notCells ht)
/-- What the two maps hold. -/
structure Two (w : World) (bo nx : Nat) (D : List Oc) (NX : List Nw) : Prop where
  ex : ∃ lo ln, MapL Gl.agg Ex.agg w bo lo ∧ OutR lo D ∧ MapL Nw.agg Yes.val w nx ln ∧ ∀ k, k ∈ ln.map (·.1) ↔ k ∈ NX
theorem Two.grown {A B : World} {bo nx base : Nat} {D : List Oc} {NX : List Nw} {row : Option Nat} (h : Two A bo nx D NX) (hb : bo < base ∧ nx < base) (hg : A.grownBy B row) (hr : ∀ r, row = some r → base ≤ r) : Two B bo nx D NX :=
  let ⟨lo, ln, h1, h2, h3, h4⟩ := h.ex; ⟨lo, ln, h1.grown hb.1 hg hr, h2, h3.grown hb.2 hg hr, h4⟩
theorem Two.ext {A B : World} {bo nx : Nat} {D : List Oc} {NX : List Nw} (h : Two A bo nx D NX) (hx : Ext A B) : Two B bo nx D NX :=
  let ⟨lo, ln, h1, h2, h3, h4⟩ := h.ex; ⟨lo, ln, h1.ext hx, h2, h3.ext hx, h4⟩
theorem Two.congr {A : World} {bo nx : Nat} {D D' : List Oc} {NX NX' : List Nw} (h : Two A bo nx D NX) (e1 : ∀ o, o ∈ D ↔ o ∈ D') (e2 : ∀ o, o ∈ NX ↔ o ∈ NX') : Two A bo nx D' NX' :=
  let ⟨lo, ln, h1, h2, h3, h4⟩ := h.ex; ⟨lo, ln, h1, h2.congr e1, h3, fun k => (h4 k).trans (e2 k)⟩
theorem two_round {gin gout : Int} {beds : List Int} {s : Sd} {dart : Nat} {n : Nw} {x : Int} {W : World} {bo nx : Nat} {D : List Oc} {NX : List Nw} {lo : List (Gl × Ex)} {ln : List (Nw × Yes)} (hl : (lo.map (·.1)).Nodup) (h2 : OutR lo D) (h4 : ∀ k, k ∈ ln.map (·.1) ↔ k ∈ NX)
    (h1 : MapL Gl.agg Ex.agg W bo (rndO (hitS gin gout n.left n.inn x).2.2 s.left dart (triN gin gout beds n) lo)) (h3 : MapL Nw.agg Yes.val W nx (rndL (hitS gin gout n.left n.inn x).2.2 ⟨(hitS gin gout n.left n.inn x).1, (hitS gin gout n.left n.inn x).2.1, triN gin gout beds n⟩ ln)) : Two W bo nx (D ++ out1N gin gout beds s dart n x) (NX ++ nxt1N gin gout beds n x) := by
  refine ⟨_, _, h1, ?_, h3, ?_⟩
  · unfold rndO out1N
    split
    · exact h2.add hl _ _ _
    · split
      · exact h2.add hl _ _ _
      · rw [List.append_nil]; exact h2
  · unfold rndL nxt1N
    split
    · rw [List.append_nil]; exact h4
    · split
      · rw [List.append_nil]; exact h4
      · intro k
        rw [putL_keys, List.mem_append, ← h4]
        split
        · rename_i hm
          constructor
          · exact .inl
          · rintro (h | h)
            · exact h
            · rw [List.mem_singleton] at h; rw [h]; exact hm
        · rw [List.mem_append]
set_option maxRecDepth 100000 in
set_option maxHeartbeats 8000000 in
theorem from_now (c : Code) (hc : codeFrom 15 (Try.f77.body.getD .skip) = some c) (Q : Exit → Act → World → Prop) (start gin gout left : Int) (s : Sd) (inn : Bool) (tr0 : Int) (dart : Nat) (beds : List Int) (bc : Nat) (ba : Option Addr) (bf B2 kb S3 O7 K8 K10 K11 K12 K13 bo nx : Nat) (D : List Oc) (NX : List Nw) (fi : Int) (ds : List Deferred) (w : World) (g0 g1 g4 g5 g6 g7 g9 g14 g15 g16 g17 g18 g19 g20 g21 g22 g23 g24 g25 g26 g27 g28 g29 g30 g31 g32 g33 g34 g35 g36 g37 g38 g39 g40 g41 g42 g43 g44 g45 g46 g47 g48 g49 g50 g51 g52 g53 g54 g55 g56 g57 g58 g59 g60 g61 g62 g63 g64 g65 g66 g67 g68 g69 g70 g71 g72 g73 g74 g75 g76 g77 g78 g79 g80 g81 g82 g83 g84 g85 g86 g87 g88 g89 g90 g91 g92 g93 g94 g95 g96 g97 g98 g99 g100 g101 g102 g103 g104 g105 g106 g107 g108 g109 g110 g111 g112 g113 g114 g115 g116 g117 g118 g119 g120 : Value)
    (h2 : Blk w B2 #[.pointer (some ⟨kb, 0, none⟩)]) (hk : Blk w kb #[.int .i64 start, .int .i64 gin, .int .i64 gout, .slice ba beds.length bc, .map (some bf)]) (hR : RdI S0 w (.slice ba beds.length bc) beds) (hS : Blk w S3 #[.int .i64 s.left, .bool s.inn]) (hO : Blk w O7 #[.map (some bo)]) (h8 : Blk w K8 #[.func (.func 94) #[] #[.pointer (some ⟨O7, 0, none⟩)]])
    (h10 : Blk w K10 #[.int .i64 dart]) (h11 : Blk w K11 #[.map (some nx)]) (h12 : Blk w K12 #[.int .i64 left, .bool inn, .int .i64 tr0]) (h13 : Blk w K13 #[.int .i64 (tr0 + fi)]) (hfi : finI gin gout beds left inn = fi) (ht : Two w bo nx D NX) (hne : bo ≠ nx) (hx : ∀ x, x = 0 ∨ x ∈ beds → I64 x ∧ I64 (left - wrt x)) (hd : dart ≤ 3) (htr : 0 ≤ tr0 ∧ tr0 ≤ 100) (hlen : beds.length ≤ 100)
    (hQ : ∀ (W : World) (Dm : Nat) (x55 x56 x57 x58 x59 : Value), w.heap.size ≤ Dm → W.heap[Dm]? = some (.deferred (some [])) → Two W bo nx (D ++ outN gin gout beds s dart ⟨left, inn, tr0⟩) (NX ++ nxtN gin gout beds ⟨left, inn, tr0⟩) → Chg (fun k => k = bo ∨ k = nx) w W → Q .normal { tmps := #[g0, g1, .pointer (some ⟨B2, 0, none⟩), .pointer (some ⟨S3, 0, none⟩), g4, g5, g6, g7, .pointer (some ⟨K8, 0, none⟩), g9, .pointer (some ⟨K10, 0, none⟩), .pointer (some ⟨K11, 0, none⟩), .pointer (some ⟨K12, 0, none⟩), .pointer (some ⟨K13, 0, none⟩), g14, g15, g16, g17, g18, g19, g20, g21, g22, g23, g24, g25, g26, g27, g28, g29, g30, g31, g32, g33, g34, g35, g36, g37, g38, g39, g40, g41, g42, g43, g44, g45, g46, g47, g48, g49, g50, g51, g52, g53, g54, x55, x56, x57, x58, x59, g60, g61, g62, g63, g64, g65, g66, g67, g68, g69, g70, g71, g72, g73, g74, g75, g76, g77, g78, g79, g80, g81, g82, g83, g84, g85, g86, g87, g88, g89, g90, g91, g92, g93, g94, g95, g96, g97, g98, g99, g100, g101, g102, g103, g104, g105, g106, g107, g108, g109, g110, g111, g112, g113, g114, g115, g116, g117, g118, g119, g120], defers := { target := .collected Dm, args := #[] } :: ds } W) :
    c.wpIn Fence.wide 8 Try.prog Q { tmps := #[g0, g1, .pointer (some ⟨B2, 0, none⟩), .pointer (some ⟨S3, 0, none⟩), g4, g5, g6, g7, .pointer (some ⟨K8, 0, none⟩), g9, .pointer (some ⟨K10, 0, none⟩), .pointer (some ⟨K11, 0, none⟩), .pointer (some ⟨K12, 0, none⟩), .pointer (some ⟨K13, 0, none⟩), g14, g15, g16, g17, g18, g19, g20, g21, g22, g23, g24, g25, g26, g27, g28, g29, g30, g31, g32, g33, g34, g35, g36, g37, g38, g39, g40, g41, g42, g43, g44, g45, g46, g47, g48, g49, g50, g51, g52, g53, g54, g55, g56, g57, g58, g59, g60, g61, g62, g63, g64, g65, g66, g67, g68, g69, g70, g71, g72, g73, g74, g75, g76, g77, g78, g79, g80, g81, g82, g83, g84, g85, g86, g87, g88, g89, g90, g91, g92, g93, g94, g95, g96, g97, g98, g99, g100, g101, g102, g103, g104, g105, g106, g107, g108, g109, g110, g111, g112, g113, g114, g115, g116, g117, g118, g119, g120], defers := ds } w := by
  simp only [Try.f77, Option.getD_some, codeFrom, ↓reduceIte, Nat.reduceEqDiff, Option.some.injEq] at hc
  subst hc
  have hfb : 0 ≤ fi ∧ fi ≤ 1 := by rw [← hfi]; unfold finI; split <;> decide
  have htri : triN gin gout beds ⟨left, inn, tr0⟩ = tr0 + fi := by unfold triN; simp only; rw [hfi]
  have HTRI := Lib.hid htri
  have HFI := Lib.hid hfi
  have H2 := Lib.hid h2
  have HK := Lib.hid hk
  have HR := Lib.hid hR
  have HS := Lib.hid hS
  have HO := Lib.hid hO
  have H8 := Lib.hid h8
  have H10 := Lib.hid h10
  have H11 := Lib.hid h11
  have HT := Lib.hid ht
  have H12 := Lib.hid h12
  have H13 := Lib.hid h13
  have HNE := Lib.hid hne
  have HQ := Lib.hid hQ
  have HX := Lib.hid hx
  have HLEN := Lib.hid hlen
  have HFB := Lib.hid hfb
  have HTR := Lib.hid htr
  have HD := Lib.hid hd
  obtain ⟨sl, si⟩ := s
  simp only at HS
  clear h13 h12 hQ h2 hk hR hS hO h8 h10 h11 ht hne hx hlen hfi htri hfb htr hd
  have HX2 := Lib.hid (Ext.refl w)
  have m0 := (H2.out.ext HX2.out).cell 0 (v := .pointer (some ⟨kb, 0, none⟩)) rfl
  have ml := (H2.out.ext HX2.out).lt
  have q0 := (HK.out.ext HX2.out).cell 0 (v := .int .i64 start) rfl
  have q1 := (HK.out.ext HX2.out).cell 1 (v := .int .i64 gin) rfl
  have q2 := (HK.out.ext HX2.out).cell 2 (v := .int .i64 gout) rfl
  have q3 := (HK.out.ext HX2.out).cell 3 (v := .slice ba beds.length bc) rfl
  have q4 := (HK.out.ext HX2.out).cell 4 (v := .map (some bf)) rfl
  have ql := (HK.out.ext HX2.out).lt
  have HSEQ := Lib.hid (all_seq 7 start gin gout beds ba bc w (HR.out.ext HX2.out) (by have := HLEN.out; omega))
  have HT2 := Lib.hid (HT.out.ext HX2.out)
  obtain ⟨lo0, ln0, hlo0, -, hln0, -⟩ := HT2.out.ex
  have HM0 := Lib.hid (And.intro hlo0 hln0)
  have HBN : Hid (bo < w.heap.size ∧ nx < w.heap.size) := Lib.hid ⟨hlo0.lt, hln0.lt⟩
  clear hlo0 hln0
  gi_wp2
  clear m0 ml q0 q1 q2 q3 q4 ql
  refine wpIn_rangeFunc_b (α := Int) (by decide) (gf := 81) (fb := #[.agg #[.int .i64 start, .int .i64 gin, .int .i64 gout, .slice ba beds.length bc]]) (lb := #[]) rfl enters_all HSEQ.out Kc.trans (fun W l o o' _ h ho _ => Kc.put S0 W l o o' h ho) (fun _ => rfl)
    (fun pre W => Two W bo nx (D ++ pre.flatMap (out1N gin gout beds ⟨sl, si⟩ dart ⟨left, inn, tr0⟩)) (NX ++ pre.flatMap (nxt1N gin gout beds ⟨left, inn, tr0⟩)) ∧ Chg (fun k => k = bo ∨ k = nx) w W) ?hI ?hV ?h0
    (fun x a' _ => a' = { tmps := #[g0, g1, .pointer (some ⟨B2, 0, none⟩), .pointer (some ⟨S3, 0, none⟩), g4, g5, g6, g7, .pointer (some ⟨K8, 0, none⟩), g9, .pointer (some ⟨K10, 0, none⟩), .pointer (some ⟨K11, 0, none⟩), .pointer (some ⟨K12, 0, none⟩), .pointer (some ⟨K13, 0, none⟩), .int .i64 x, g15, g16, g17, g18, g19, g20, g21, g22, g23, g24, g25, g26, g27, g28, g29, g30, g31, g32, g33, g34, g35, g36, g37, g38, g39, g40, g41, g42, g43, g44, g45, g46, g47, g48, g49, g50, g51, g52, g53, g54, .pointer (some ⟨kb, 0, none⟩), .pointer (some ⟨kb, 0, none⟩), .pointer (some ⟨kb, 0, none⟩), .agg #[.int .i64 start, .int .i64 gin, .int .i64 gout, .slice ba beds.length bc], .func (.func 81) #[.agg #[.int .i64 start, .int .i64 gin, .int .i64 gout, .slice ba beds.length bc]] #[], .int .i64 x, g61, g62, g63, g64, g65, g66, g67, g68, g69, g70, g71, g72, g73, g74, g75, g76, g77, g78, g79, g80, g81, g82, g83, g84, g85, g86, g87, g88, g89, g90, g91, g92, g93, g94, g95, g96, g97, g98, g99, g100, g101, g102, g103, g104, g105, g106, g107, g108, g109, g110, g111, g112, g113, g114, g115, g116, g117, g118, g119, g120], defers := [] }) ?hAx ?assign ?body ?done
  case hI =>
    rintro pre A B row ⟨h1, h2⟩ hg hr
    exact ⟨h1.grown HBN.out hg (fun r e => (hr r e).1), chgm_grown h2 hg (fun r e => (hr r e).1)⟩
  case hV => intro pre x u A B row h _ _; exact h
  case h0 => exact ⟨by simpa using HT2.out, Chg.refl _ _⟩
  case hAx => intro x a' u A B row h _ _; exact h
  case assign =>
    intro l pre x W K hi hv hK
    have HKK := Lib.hid (hK _ W (KeepsFrom.refl _ _) (Kc.refl _ _) hi hv rfl)
    clear hK hi hv
    dsimp only
    gi_wp2
    exact HKK.out
  case body =>
    rintro l pre x a' W ⟨ht, hc⟩ hv rfl
    obtain ⟨lo, ln, m1, m2, m3, m4⟩ := ht.ex
    have kp : ∀ {b cs}, Blk w b cs → Blk W b cs := fun h => h.chgM hc HM0.out.1 HM0.out.2
    refine wpIn_mono (from_round _ (by kernel_rfl) l start gin gout sl left x dart (tr0 + fi) tr0 si inn beds.length bc ba bf B2 kb S3 O7 K8 K10 K11 K12 K13 bo nx w.heap.size lo ln W _ _ _ _ _ _ _ _ _ _ _ _ _ _ _ _ _ _ _ _ _ _ _ _ _ _ _ _ _ _ _ _ _ _ _ _ _ _ _ _ _ _ _ _ _ _ _ _ _ _ _ _ _ _ _ _ _ _ _ _ _ _ _ _ _ _ _ _ _ _ _ _ _ _ _ _ _ _ _ _ _ _ _ _ _ _ _ _ _ _ _ _ _ _ _ _ _ _ _ _ _ _ _ _ _ _ _ _ _ _ _ _ _
      (kp (H2.out.ext HX2.out)) (kp (HK.out.ext HX2.out)) (kp (HS.out.ext HX2.out)) (kp (HO.out.ext HX2.out)) (kp (H8.out.ext HX2.out)) (kp (H10.out.ext HX2.out)) (kp (H11.out.ext HX2.out)) (kp (H12.out.ext HX2.out)) (kp (H13.out.ext HX2.out)) m1 m3 HNE.out (HX.out x hv).1 (HX.out x hv).2 ⟨by omega, by have := HD.out; omega⟩ HBN.out.1 HBN.out.2) ?_
    rintro e a'' W' ⟨rfl, k1, k2, k3, k4, k5⟩
    refine ⟨rfl, k1, k2, ?_, hc.trans k5⟩
    rw [← HTRI.out] at k3 k4
    have := two_round (s := ⟨sl, si⟩) (dart := dart) (n := ⟨left, inn, tr0⟩) m1.nodup m2 m4 k3 k4
    rw [List.flatMap_append, List.flatMap_append, ← List.append_assoc, ← List.append_assoc]
    simpa using this
  case done =>
    rintro Dm xs W hD rfl ⟨ht, hc⟩ hk
    exact HQ.out W Dm _ _ _ _ _ (Nat.le_trans HX2.out.size hD) hk ht ((HX2.out.chg _).trans hc)
end Go.Proofs.Ytmopadnkjlodnaa
