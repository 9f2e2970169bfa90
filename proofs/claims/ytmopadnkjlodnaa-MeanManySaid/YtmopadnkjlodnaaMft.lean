/-
  Package mean: all visits so far and their next dart (the loop over the level in from).
-/
import Derived.Test.YtmopadnkjlodnaaRfw
import Derived.Test.YtmopadnkjlodnaaMeanD
import Derived.Sort.CutIn
import Derived.Test.YtmopadnkjlodnaaMfa
import Derived.Test.YtmopadnkjlodnaaRcj
import Derived.Sort.MapsRangeIn
namespace Go.Proofs.Ytmopadnkjlodnaa
open Go.RowKit
attribute [local go_sem] Oper.semAt_some
theorem enters_all : Enters Try.prog 81 := enters_of Try.func81 (by kernel_rfl) rfl
set_option maxRecDepth 100000 in
set_option maxHeartbeats 4000000 in
theorem all_seq (n' : Nat) (start gin gout : Int) (beds : List Int) (ba : Option Addr) (bc : Nat) (w : World) (hR : RdI S0 w (.slice ba beds.length bc) beds) (hl : beds.length ≤ 1000) :
    SeqB n' Try.prog 81 #[.agg #[.int .i64 start, .int .i64 gin, .int .i64 gout, .slice ba beds.length bc]] #[] (fun x : Int => #[.int .i64 x]) (fun _ x _ => x = 0 ∨ x ∈ beds) (Kc S0) (fun xs => xs = 0 :: beds) w := by
  intro l J W hxw hJ hY h0
  have HR := Lib.hid (hR.ext hxw)
  have HY := Lib.hid hY
  have HJ := Lib.hid h0
  have HJA := Lib.hid hJ
  clear hR hY h0 hxw hJ
  refine callsIn_of_wp Try.func81 rfl trivial ?_ rfl
  simp only [Try.ntmps81, List.size_toArray, List.length_cons, List.length_nil, Nat.reduceAdd, Nat.reduceSub, Array.replicate_succ, Array.replicate_zero, List.push_toArray, List.append_toArray, List.nil_append, List.cons_append]
  have hx1 : Ext W (W.alloc (.cells #[.int .i64 start, .int .i64 gin, .int .i64 gout, .slice ba beds.length bc] 101)) := (Ext.refl W).alloc _
  have HB1 : Hid (Blk (W.alloc (.cells #[.int .i64 start, .int .i64 gin, .int .i64 gout, .slice ba beds.length bc] 101)) W.heap.size #[.int .i64 start, .int .i64 gin, .int .i64 gout, .slice ba beds.length bc]) := Lib.hid (Blk.new _ _ _)
  have hj1 := HJA.out _ _ _ none HJ.out hx1.to_grown (fun r e => by cases e)
  obtain ⟨f1, t1, a1', b1', hy1, hR1⟩ := HY.out [] 0 _ hj1 (.inl rfl)
  have HX1 := Lib.hid hx1
  clear hx1 hj1
  gi_wp2
  refine ⟨fun h => (by cases h), hR1.mono ?_⟩
  rintro e w2 ⟨rfl, hj2, hk2⟩
  have HJ2 := Lib.hid hj2
  have HB2 := Lib.hid (hk2.blk HB1.out id)
  have HR2 := Lib.hid ((HR.out.ext HX1.out).keep hk2)
  have c3 := HB2.out.cell 3 (v := .slice ba beds.length bc) rfl
  have hbl := HB2.out.lt
  clear hj2 hk2 hy1 hR1 HB1
  gi_wp2
  gi_loopw [12] (fun i wr => ∃ k : Nat, k ≤ beds.length ∧ i = .int .i64 k ∧ J (0 :: beds.take k) wr ∧ Kc S0 w2 wr) (fun i _ => beds.length - (intOf i).toNat)
  case atStart => exact ⟨0, Nat.zero_le _, rfl, HJ2.out, Kc.refl _ _⟩
  case round =>
    obtain ⟨k, hk, rfl, hj, hkc⟩ := hrel
    have HJK := Lib.hid hj
    have HKC := Lib.hid hkc
    by_cases hlt : k < beds.length
    · obtain ⟨bb, bo, e, c0⟩ := (rd_cells (HR2.out.keep hkc)).2 k hlt
      subst e
      have c1 := lt_of_cell c0
      simp only at c1
      have HT := Lib.hid (List.take_succ_eq_append_getElem hlt)
      obtain ⟨f1, t1, a1', b1', hy1, hR1⟩ := HY.out _ beds[k] _ hj (.inr (List.getElem_mem hlt))
      generalize beds[k] = x at *
      clear hj hkc c3
      gi_wp2
      refine ⟨fun h => (by cases h), hR1.mono ?_⟩
      rintro e w3 ⟨rfl, hj3, hk3⟩
      have HJ3 := Lib.hid hj3
      have HK3 := Lib.hid (HKC.out.trans hk3)
      clear hj3 hk3 hy1 hR1
      gi_wp2
      go_roundw
      case rel => exact ⟨k + 1, by omega, by go_num, by rw [HT.out]; exact HJ3.out, HK3.out⟩
      case measure => simp [intOf]; omega
    · obtain rfl : beds.length = k := by omega
      have HJ3 := Lib.hid (show J (0 :: beds) wr by rw [List.take_length] at hj; exact hj)
      clear hj hkc c3
      gi_wp2
      refine bodyPost_end (results_none rfl _ _ _) rfl ⟨⟨_, rfl⟩, _, rfl, HJ3.out⟩
end Go.Proofs.Ytmopadnkjlodnaa
namespace Go.Proofs.Ytmopadnkjlodnaa
/-- What a visit comes to: its goal, its darts, and how many were at a finish. -/
structure Oc where
  g : Gl
  d : Int
  t : Int
structure IsE (g : Gl) (D : List Oc) (x : Ex) : Prop where
  some : x.some = true
  dl : ∃ o ∈ D, o.g = g ∧ o.d = x.dl
  dh : ∃ o ∈ D, o.g = g ∧ o.d = x.dh
  tl : ∃ o ∈ D, o.g = g ∧ o.t = x.tl
  th : ∃ o ∈ D, o.g = g ∧ o.t = x.th
  all : ∀ o ∈ D, o.g = g → x.dl ≤ o.d ∧ o.d ≤ x.dh ∧ x.tl ≤ o.t ∧ o.t ≤ x.th
def OutR (l : List (Gl × Ex)) (D : List Oc) : Prop := ∀ g, (lookL l g = none ∧ ∀ o ∈ D, o.g ≠ g) ∨ ∃ x, lookL l g = some x ∧ IsE g D x
theorem OutR.nil : OutR [] [] := fun g => .inl ⟨rfl, by simp⟩
theorem IsE.congr {g : Gl} {D D' : List Oc} {x : Ex} (h : IsE g D x) (e : ∀ o, o ∈ D ↔ o ∈ D') : IsE g D' x :=
  ⟨h.some, let ⟨o, h1, h2⟩ := h.dl; ⟨o, (e o).1 h1, h2⟩, let ⟨o, h1, h2⟩ := h.dh; ⟨o, (e o).1 h1, h2⟩, let ⟨o, h1, h2⟩ := h.tl; ⟨o, (e o).1 h1, h2⟩, let ⟨o, h1, h2⟩ := h.th; ⟨o, (e o).1 h1, h2⟩, fun o ho hg => h.all o ((e o).2 ho) hg⟩
theorem OutR.congr {l : List (Gl × Ex)} {D D' : List Oc} (h : OutR l D) (e : ∀ o, o ∈ D ↔ o ∈ D') : OutR l D' := fun g => by
  rcases h g with ⟨h1, h2⟩ | ⟨x, h1, h2⟩
  · exact .inl ⟨h1, fun o ho => h2 o ((e o).2 ho)⟩
  · exact .inr ⟨x, h1, h2.congr e⟩
theorem IsE.uniq {g : Gl} {D : List Oc} {x y : Ex} (h : IsE g D x) (k : IsE g D y) : x = y := by
  have le : ∀ {a b : Ex}, IsE g D a → IsE g D b → a.dl ≤ b.dl ∧ b.dh ≤ a.dh ∧ a.tl ≤ b.tl ∧ b.th ≤ a.th := by
    intro a b ha hb
    obtain ⟨o1, m1, g1, e1⟩ := hb.dl
    obtain ⟨o2, m2, g2, e2⟩ := hb.dh
    obtain ⟨o3, m3, g3, e3⟩ := hb.tl
    obtain ⟨o4, m4, g4, e4⟩ := hb.th
    have r1 := ha.all o1 m1 g1
    have r2 := ha.all o2 m2 g2
    have r3 := ha.all o3 m3 g3
    have r4 := ha.all o4 m4 g4
    omega
  have h1 := le h k
  have h2 := le k h
  obtain ⟨x1, x2, x3, x4, x5⟩ := x
  obtain ⟨y1, y2, y3, y4, y5⟩ := y
  have s1 := h.some
  have s2 := k.some
  simp only at h1 h2 s1 s2
  subst s1 s2
  obtain rfl : x1 = y1 := by omega
  obtain rfl : x2 = y2 := by omega
  obtain rfl : x3 = y3 := by omega
  obtain rfl : x4 = y4 := by omega
  rfl
theorem OutR.add {l : List (Gl × Ex)} {D : List Oc} (hn : (l.map (·.1)).Nodup) (h : OutR l D) (g : Gl) (d t : Int) : OutR (putL l g (addX ((lookL l g).getD noEx) d t)) (D ++ [⟨g, d, t⟩]) := by
  intro j
  by_cases e : j = g
  · subst e
    refine .inr ⟨_, by rw [lookL_put hn, if_pos rfl], ?_⟩
    have hmem : ∀ o, o ∈ D ++ [⟨j, d, t⟩] ↔ o ∈ D ∨ o = ⟨j, d, t⟩ := fun o => by simp
    have hlast : (⟨j, d, t⟩ : Oc) ∈ D ++ [⟨j, d, t⟩] := by simp
    rcases h j with ⟨h1, h2⟩ | ⟨x, h1, h2⟩
    · rw [h1]
      have hx : addX (Option.getD none noEx) d t = ⟨d, d, t, t, true⟩ := rfl
      rw [hx]
      refine ⟨rfl, ⟨_, hlast, rfl, rfl⟩, ⟨_, hlast, rfl, rfl⟩, ⟨_, hlast, rfl, rfl⟩, ⟨_, hlast, rfl, rfl⟩, fun o ho hg => ?_⟩
      rcases (hmem o).1 ho with h | rfl
      · exact absurd hg (h2 o h)
      · simp
    · rw [h1]
      have hx : addX (Option.getD (some x) noEx) d t = ⟨min x.dl d, max x.dh d, min x.tl t, max x.th t, true⟩ := by
        show addX x d t = _
        unfold addX; rw [if_pos h2.some]
      rw [hx]
      obtain ⟨o1, m1, g1, e1⟩ := h2.dl
      obtain ⟨o2, m2, g2, e2⟩ := h2.dh
      obtain ⟨o3, m3, g3, e3⟩ := h2.tl
      obtain ⟨o4, m4, g4, e4⟩ := h2.th
      refine ⟨rfl, ?_, ?_, ?_, ?_, fun o ho hg => ?_⟩
      · rcases Int.le_total x.dl d with c | c
        · exact ⟨o1, (hmem _).2 (.inl m1), g1, by rw [e1]; show x.dl = min x.dl d; omega⟩
        · exact ⟨_, hlast, rfl, by show d = min x.dl d; omega⟩
      · rcases Int.le_total d x.dh with c | c
        · exact ⟨o2, (hmem _).2 (.inl m2), g2, by rw [e2]; show x.dh = max x.dh d; omega⟩
        · exact ⟨_, hlast, rfl, by show d = max x.dh d; omega⟩
      · rcases Int.le_total x.tl t with c | c
        · exact ⟨o3, (hmem _).2 (.inl m3), g3, by rw [e3]; show x.tl = min x.tl t; omega⟩
        · exact ⟨_, hlast, rfl, by show t = min x.tl t; omega⟩
      · rcases Int.le_total t x.th with c | c
        · exact ⟨o4, (hmem _).2 (.inl m4), g4, by rw [e4]; show x.th = max x.th t; omega⟩
        · exact ⟨_, hlast, rfl, by show t = max x.th t; omega⟩
      · show min x.dl d ≤ o.d ∧ o.d ≤ max x.dh d ∧ min x.tl t ≤ o.t ∧ o.t ≤ max x.th t
        rcases (hmem o).1 ho with h | rfl
        · have := h2.all o h hg; omega
        · simp only; omega
  · rcases h j with ⟨h1, h2⟩ | ⟨x, h1, h2⟩
    · refine .inl ⟨by rw [lookL_put hn, if_neg e]; exact h1, fun o ho => ?_⟩
      rcases List.mem_append.1 ho with h | h
      · exact h2 o h
      · simp at h; rw [h]; exact fun k => e k.symm
    · refine .inr ⟨x, by rw [lookL_put hn, if_neg e]; exact h1, ?_⟩
      have key : ∀ {p : Oc → Prop}, (∃ o ∈ D, o.g = j ∧ p o) → ∃ o ∈ D ++ [⟨g, d, t⟩], o.g = j ∧ p o := fun ⟨o, h1, h2⟩ => ⟨o, by simp [h1], h2⟩
      refine ⟨h2.some, key h2.dl, key h2.dh, key h2.tl, key h2.th, fun o ho hg => ?_⟩
      rcases List.mem_append.1 ho with h | h
      · exact h2.all o h hg
      · simp at h; rw [h] at hg; exact absurd hg.symm e
section
variable (gin gout : Int) (beds : List Int) (s : Sd)
/-- How many darts of a visit are at a finish, with the next one. -/
def triN (n : Nw) : Int := n.tried + finI gin gout beds n.left n.inn
/-- What a dart ends, and where it leads. -/
def out1N (dart : Nat) (n : Nw) (x : Int) : List Oc :=
  if (hitS gin gout n.left n.inn x).2.2 = 1 then [⟨⟨s.left, true⟩, (dart : Int) + 1, triN gin gout beds n⟩]
  else if (hitS gin gout n.left n.inn x).2.2 = 2 then [⟨⟨0, false⟩, (dart : Int) + 1, triN gin gout beds n⟩] else []
def nxt1N (n : Nw) (x : Int) : List Nw :=
  if (hitS gin gout n.left n.inn x).2.2 = 1 then [] else if (hitS gin gout n.left n.inn x).2.2 = 2 then [] else [⟨(hitS gin gout n.left n.inn x).1, (hitS gin gout n.left n.inn x).2.1, triN gin gout beds n⟩]
def outN (dart : Nat) (n : Nw) : List Oc := (0 :: beds).flatMap (out1N gin gout beds s dart n)
def nxtN (n : Nw) : List Nw := (0 :: beds).flatMap (nxt1N gin gout beds n)
def levN : Nat → List Nw
  | 0 => [⟨s.left, s.inn, 0⟩]
  | k + 1 => (levN k).flatMap (nxtN gin gout beds)
/-- What the visits come to that end with one of the first darts. -/
def outTo : Nat → List Oc
  | 0 => []
  | k + 1 => outTo k ++ (levN gin gout beds s k).flatMap (outN gin gout beds s k)
def outS : List Oc := outTo gin gout beds s 3 ++ (levN gin gout beds s 3).map fun n => ⟨⟨s.left - n.left, false⟩, 3, n.tried⟩
end
end Go.Proofs.Ytmopadnkjlodnaa
namespace Go.Proofs.Ytmopadnkjlodnaa
open Go.RowKit Go.BigFrame
attribute [local go_sem] Oper.semAt_some Later.cell Later.frozen Lat.cell Lat.frozen NoX
theorem Lat.ext1 {w : World} (y : Lat (fun b _ => w.heap.size ≤ b) w) : Ext w y.world := Chg.to_ext (Ext.refl w) y.chg (by rintro i ⟨_, h⟩; exact h)
/-- The body of the first loop over a function. -/
def codeRnd : Code → Option Code
  | .rangeFunc _ _ _ b => some b
  | .block _ c => codeRnd c
  | .seq a b => match codeRnd a with
    | some c => some c
    | none => codeRnd b
  | .cond _ a b => match codeRnd a with
    | some c => some c
    | none => codeRnd b
  | .loop c => codeRnd c
  | _ => none
/-- What a dart with effect e turns. -/
def rndO (e : Int) (sl dart tried : Int) (lo : List (Gl × Ex)) : List (Gl × Ex) :=
  if e = 1 then putL lo ⟨sl, true⟩ (addX ((lookL lo ⟨sl, true⟩).getD noEx) (dart + 1) tried) else if e = 2 then putL lo ⟨0, false⟩ (addX ((lookL lo ⟨0, false⟩).getD noEx) (dart + 1) tried) else lo
def rndL (e : Int) (n : Nw) (ln : List (Nw × Yes)) : List (Nw × Yes) := if e = 1 then ln else if e = 2 then ln else putL ln n .yes
def RndG (base bo nx : Nat) (w : World) (lo' : List (Gl × Ex)) (ln' : List (Nw × Yes)) (W : World) : Prop := KeepsFrom base w W ∧ Kc S0 w W ∧ MapL Gl.agg Ex.agg W bo lo' ∧ MapL Nw.agg Yes.val W nx ln' ∧ Chg (fun k => k = bo ∨ k = nx) w W
theorem rnd_fin {base bo nx : Nat} {w W : World} {lo lo' : List (Gl × Ex)} {ln ln' : List (Nw × Yes)} (hc : Chg (fun k => k = bo ∨ k = nx) w W) (h1 : MapL Gl.agg Ex.agg w bo lo) (h2 : MapL Nw.agg Yes.val w nx ln) (hb : bo < base ∧ nx < base) (h3 : MapL Gl.agg Ex.agg W bo lo') (h4 : MapL Nw.agg Yes.val W nx ln') : RndG base bo nx w lo' ln' W :=
  ⟨kf_chg hc (by rintro k (rfl | rfl); exact hb.1; exact hb.2), ⟨hc.size, fun k cs t f hk _ => hc.heap hk (by rintro (rfl | rfl); exact h1.notCells hk; exact h2.notCells hk)⟩, h3, h4, hc⟩
set_option maxRecDepth 100000 in
set_option maxHeartbeats 8000000 in
theorem from_round (c : Code) (hc : codeRnd (Try.f77.body.getD .skip) = some c) (lp : Nat) (start gin gout sl left x dart tried tr0 : Int) (si inn : Bool) (bn bc : Nat) (ba : Option Addr) (bf B2 kb S3 O7 K8 K10 K11 K12 K13 bo nx base : Nat) (lo : List (Gl × Ex)) (ln : List (Nw × Yes)) (w : World) (g0 g1 g4 g5 g6 g7 g9 g15 g16 g17 g18 g19 g20 g21 g22 g23 g24 g25 g26 g27 g28 g29 g30 g31 g32 g33 g34 g35 g36 g37 g38 g39 g40 g41 g42 g43 g44 g45 g46 g47 g48 g49 g50 g51 g52 g53 g54 g55 g56 g57 g58 g59 g60 g61 g62 g63 g64 g65 g66 g67 g68 g69 g70 g71 g72 g73 g74 g75 g76 g77 g78 g79 g80 g81 g82 g83 g84 g85 g86 g87 g88 g89 g90 g91 g92 g93 g94 g95 g96 g97 g98 g99 g100 g101 g102 g103 g104 g105 g106 g107 g108 g109 g110 g111 g112 g113 g114 g115 g116 g117 g118 g119 g120 : Value)
    (h2 : Blk w B2 #[.pointer (some ⟨kb, 0, none⟩)]) (hk : Blk w kb #[.int .i64 start, .int .i64 gin, .int .i64 gout, .slice ba bn bc, .map (some bf)]) (hS : Blk w S3 #[.int .i64 sl, .bool si]) (hO : Blk w O7 #[.map (some bo)]) (h8 : Blk w K8 #[.func (.func 94) #[] #[.pointer (some ⟨O7, 0, none⟩)]])
    (h10 : Blk w K10 #[.int .i64 dart]) (h11 : Blk w K11 #[.map (some nx)]) (h12 : Blk w K12 #[.int .i64 left, .bool inn, .int .i64 tr0]) (h13 : Blk w K13 #[.int .i64 tried]) (hlo : MapL Gl.agg Ex.agg w bo lo) (hln : MapL Nw.agg Yes.val w nx ln) (hne : bo ≠ nx) (hx : I64 x) (hl : I64 (left - wrt x)) (hd : 0 ≤ dart ∧ dart ≤ 3) (hbo : bo < base) (hnx : nx < base) :
    c.wpIn (Fence.wide.inRound lp) 6 Try.prog (fun e _ W => e = .normal ∧ RndG base bo nx w (rndO (hitS gin gout left inn x).2.2 sl dart tried lo) (rndL (hitS gin gout left inn x).2.2 ⟨(hitS gin gout left inn x).1, (hitS gin gout left inn x).2.1, tried⟩ ln) W)
      { tmps := #[g0, g1, .pointer (some ⟨B2, 0, none⟩), .pointer (some ⟨S3, 0, none⟩), g4, g5, g6, g7, .pointer (some ⟨K8, 0, none⟩), g9, .pointer (some ⟨K10, 0, none⟩), .pointer (some ⟨K11, 0, none⟩), .pointer (some ⟨K12, 0, none⟩), .pointer (some ⟨K13, 0, none⟩), .int .i64 x, g15, g16, g17, g18, g19, g20, g21, g22, g23, g24, g25, g26, g27, g28, g29, g30, g31, g32, g33, g34, g35, g36, g37, g38, g39, g40, g41, g42, g43, g44, g45, g46, g47, g48, g49, g50, g51, g52, g53, g54, g55, g56, g57, g58, g59, g60, g61, g62, g63, g64, g65, g66, g67, g68, g69, g70, g71, g72, g73, g74, g75, g76, g77, g78, g79, g80, g81, g82, g83, g84, g85, g86, g87, g88, g89, g90, g91, g92, g93, g94, g95, g96, g97, g98, g99, g100, g101, g102, g103, g104, g105, g106, g107, g108, g109, g110, g111, g112, g113, g114, g115, g116, g117, g118, g119, g120], defers := [] } w := by
  simp only [Try.f77, Option.getD_some, codeRnd, Option.some.injEq] at hc
  subst hc
  obtain ⟨h1, hh1⟩ : ∃ v, (hitS gin gout left inn x).1 = v := ⟨_, rfl⟩
  obtain ⟨h2', hh2⟩ : ∃ v, (hitS gin gout left inn x).2.1 = v := ⟨_, rfl⟩
  obtain ⟨ef, hef⟩ : ∃ v, (hitS gin gout left inn x).2.2 = v := ⟨_, rfl⟩
  have HHIT := Lib.hid (fun W => mean_hit start gin gout left inn (.slice ba bn bc) x W hx hl ⟨ba, bn, bc, rfl⟩)
  have HV := Lib.hid (show hitV (hitS gin gout left inn x) = .tuple #[.agg #[.int .i64 h1, .bool h2'], .int .i64 ef] by unfold hitV; rw [hh1, hh2, hef])
  rw [HV.out] at HHIT
  rw [hh1, hh2, hef]
  clear hh1 hh2 hef HV hx hl
  obtain ⟨Q, hQ⟩ : ∃ Q : World → Prop, Q = RndG base bo nx w (rndO ef sl dart tried lo) (rndL ef ⟨h1, h2', tried⟩ ln) := ⟨_, rfl⟩
  rw [← hQ]
  have HQ := Lib.hid hQ
  have H2 := Lib.hid h2
  have HK := Lib.hid hk
  have HS := Lib.hid hS
  have HO := Lib.hid hO
  have H8 := Lib.hid h8
  have H10 := Lib.hid h10
  have H11 := Lib.hid h11
  have H12 := Lib.hid h12
  have H13 := Lib.hid h13
  have HLO := Lib.hid hlo
  have HLN := Lib.hid hln
  have HNE := Lib.hid hne
  have HBS := Lib.hid (show bo < base ∧ nx < base from ⟨hbo, hnx⟩)
  clear hQ h2 hk hS hO h8 h10 h11 h12 h13 hlo hln hne hbo hnx
  gi_upto_region 17 with fail
  have l2 := H2.out.lt
  have lk := HK.out.lt
  have l12 := H12.out.lt
  have m0 : ∀ y : Lat (fun b _ => w.heap.size ≤ b) w, y.world.cell? ⟨B2, 0, none⟩ = some (.pointer (some ⟨kb, 0, none⟩)) := fun y => (H2.out.ext (Lat.ext1 y)).cell 0 rfl
  have q0 : ∀ y : Lat (fun b _ => w.heap.size ≤ b) w, y.world.cell? ⟨kb, 0, none⟩ = some (.int .i64 start) := fun y => (HK.out.ext (Lat.ext1 y)).cell 0 rfl
  have q1 : ∀ y : Lat (fun b _ => w.heap.size ≤ b) w, y.world.cell? ⟨kb, 1, none⟩ = some (.int .i64 gin) := fun y => (HK.out.ext (Lat.ext1 y)).cell 1 rfl
  have q2 : ∀ y : Lat (fun b _ => w.heap.size ≤ b) w, y.world.cell? ⟨kb, 2, none⟩ = some (.int .i64 gout) := fun y => (HK.out.ext (Lat.ext1 y)).cell 2 rfl
  have q3 : ∀ y : Lat (fun b _ => w.heap.size ≤ b) w, y.world.cell? ⟨kb, 3, none⟩ = some (.slice ba bn bc) := fun y => (HK.out.ext (Lat.ext1 y)).cell 3 rfl
  have q4 : ∀ y : Lat (fun b _ => w.heap.size ≤ b) w, y.world.cell? ⟨kb, 4, none⟩ = some (.map (some bf)) := fun y => (HK.out.ext (Lat.ext1 y)).cell 4 rfl
  have n0 : ∀ y : Lat (fun b _ => w.heap.size ≤ b) w, y.world.cell? ⟨K12, 0, none⟩ = some (.int .i64 left) := fun y => (H12.out.ext (Lat.ext1 y)).cell 0 rfl
  have n1 : ∀ y : Lat (fun b _ => w.heap.size ≤ b) w, y.world.cell? ⟨K12, 1, none⟩ = some (.bool inn) := fun y => (H12.out.ext (Lat.ext1 y)).cell 1 rfl
  have n2 : ∀ y : Lat (fun b _ => w.heap.size ≤ b) w, y.world.cell? ⟨K12, 2, none⟩ = some (.int .i64 tr0) := fun y => (H12.out.ext (Lat.ext1 y)).cell 2 rfl
  refine wpIn_calls_r lp (by kernel_rfl) (by kernel_rfl) [.no, .no, .no, .no, .no, .no, .no, .of (fun v => v = .tuple #[.agg #[.int .i64 h1, .bool h2'], .int .i64 ef]) (.tuple #[.agg #[.int .i64 h1, .bool h2'], .int .i64 ef]) rfl, .no, .no, .no, .ptr, .any] w.heap.size (fun (c : (Nat × World)) => c.2.heap.size)
    (fun (c : (Nat × World)) L u => [bif L 7 then Res.snap c else Res.none, bif L 7 then Res.pure (Ext w c.2 ∧ w.heap.size ≤ c.1 ∧ Nop (u 7) c.1 c.2) else Res.none, bif L 11 then Res.blk (ptrAt (u 11)) (bif L 12 then #[.int .i64 h1, .bool h2'] else #[.int .i64 0, .bool false]) else Res.none])
    (0, w) (by kernel_rfl) (Nat.le_of_ble_eq_true rfl) (fun c L L' u hh => by simp only [hh 7 rfl, hh 11 rfl, hh 12 rfl]) (by simp) (fun _ => Frm.nones _ 3 w) ?_
  intro T hT hne u hu
  have u7 : u 7 = .tuple #[.agg #[.int .i64 h1, .bool h2'], .int .i64 ef] := hu 7 rfl
  obtain ⟨k15, u11⟩ : ∃ k, u 11 = .pointer (some ⟨k, 0, none⟩) := hu 11 rfl
  clear hu
  refine lx_next 7 (by rfl) (by decide) ?_
  dsimp only [List.take, List.drop]
  repeat (go_big_quiet_step (fail))
  refine wpQuiet_nil ?_
  refine lx_loud (by rfl) (by kernel_rfl) ?_ (fun K hK => ?_)
  · intro L w3 hL hd hcl hC hs
    obtain ⟨y, rfl⟩ := hC
    obtain ⟨c, hmc, hs⟩ := hs
    have hzs := y.size
    simp only [hL, cond_false] at hs
    have hX : Ext w y.world := Chg.to_ext (Ext.refl w) y.chg (by rintro i ⟨_, h⟩; exact h)
    have hmc2 : c.2.heap.size ≤ y.world.heap.size := hmc
    have HS7 := Lib.hid hs
    clear hs
    go_wp2_with fail
    refine (HHIT.out _).mono ?_
    rintro e w' ⟨rfl, hx⟩
    have hsz' := hx.size
    have HV : Hid (Nop (.tuple #[.agg #[.int .i64 h1, .bool h2'], .int .i64 ef]) y.world.heap.size w') := Lib.hid .mk
    go_wp2
    exact lik_call y (Nat.le_refl _) rfl HS7.out 0 1 (by decide) rfl rfl hx (y.world.heap.size, w') (by show w'.heap.size ≤ w'.heap.size; omega) (φ := Ext w w' ∧ w.heap.size ≤ y.world.heap.size ∧ Nop _ y.world.heap.size w') ⟨hX.trans hx, hzs, HV.out⟩ (by first | (simp [upd, updv, hL]; done) | (simp [upd, updv, hL]; rfl))
  rw [u7]
  go_simp
  with_reducible refine hK _ ?_
  clear hK K
  refine lx_next 3 (by rfl) (by decide) ?_
  dsimp only [List.take, List.drop]
  repeat (go_big_quiet_step (fail))
  refine wpQuiet_nil ?_
  refine lx_loud (by rfl) (by kernel_rfl) ?_ (fun K hK => ?_)
  · intro L w3 hL hd hcl hC hs
    obtain ⟨y, rfl⟩ := hC
    obtain ⟨c, hmc, hs⟩ := hs
    have hzs := y.size
    have h12 := hcl.off hL 40 12 (by kernel_rfl)
    simp only [hL, h12, cond_false] at hs
    go_wp2
    exact lik_set y (Nat.le_refl _) ⟨_, rfl⟩ hs 2 (r' := Res.blk y.world.heap.size #[.int .i64 0, .bool false]) rfl (((Ext.refl y.world).alloc _).chg _) (Blk.new _ _ _) (fun k hk => .inr (by rw [show k = y.world.heap.size from hk]; simp)) c hmc (by first | (simp [upd, updv, hL, h12]; done) | (simp [upd, updv, hL, h12]; rfl))
  rw [u11]
  go_simp
  with_reducible refine hK _ ?_
  clear hK K
  refine lx_loud (by rfl) (by kernel_rfl) ?_ (fun K hK => ?_)
  · intro L w3 hL hd hcl hC hs
    obtain ⟨y, rfl⟩ := hC
    obtain ⟨c, hmc, hs⟩ := hs
    have hzs := y.size
    have h11 := hd 11 (by kernel_rfl)
    simp only [hL, h11, cond_true, cond_false] at hs
    rw [u11] at hs
    have hb : Blk y.world k15 #[.int .i64 0, .bool false] := hs.get 2 rfl
    have hlt := hb.lt
    have q0 := hb.cell 0 (v := .int .i64 0) rfl
    have f0 := hb.frozen 0
    have q1 := hb.cell 1 (v := .bool false) rfl
    have f1 := hb.frozen 1
    go_wp2
    exact lik_set y (Nat.le_refl _) trivial hs 2 rfl (two_chg (fun k => k = k15) _ rfl _ _ ) (r' := Res.blk k15 #[.int .i64 h1, .bool h2']) (two_set hb _ _ ) (fun _ hk => .inl hk) c hmc (by first | (simp [upd, updv, hL, h11, u11, ptrAt]; done) | (simp [upd, updv, hL, h11, u11, ptrAt]; rfl))
  go_simp
  with_reducible refine hK _ ?_
  clear hK K
  refine lx_next 1 (by rfl) (by decide) ?_
  dsimp only [List.take, List.drop]
  repeat (go_big_quiet_step (fail))
  refine wpQuiet_nil ?_
  refine lx_nil ?_
  intro y hs
  obtain ⟨c, hmc, hs⟩ := hs
  rw [u7, u11] at hs
  have hX : Ext w y.world := Chg.to_ext (Ext.refl w) y.chg (by rintro i ⟨_, h⟩; exact h)
  have hmc2 : c.2.heap.size ≤ y.world.heap.size := hmc
  have hp7 : Ext w c.2 ∧ w.heap.size ≤ c.1 ∧ Nop (.tuple #[.agg #[.int .i64 h1, .bool h2'], .int .i64 ef]) c.1 c.2 := hs.get 1 rfl
  have hr7 := hp7.2.2.chg (snap_chg (hs.get 0 rfl) hp7.1 hX (by omega)) (fun k hk => hk.2)
  have hsl7 := hp7.2.1
  have hbk15 : Blk y.world k15 #[.int .i64 h1, .bool h2'] := hs.get 2 rfl
  have hlk15 := hs.lt 2 rfl k15 rfl
  generalize c.1 = sz7 at *
  clear hs hp7 hmc hmc2 hT hne u7 u11
  generalize y.world = w1 at *
  clear m0 q0 q1 q2 q3 q4 n0 n1 n2 l2 lk l12
  have HX := Lib.hid hX
  have HLO1 := Lib.hid (HLO.out.ext hX)
  have HLN1 := Lib.hid (HLN.out.ext hX)
  have hkd : k15 ≠ K13 := by have := H13.out.lt; omega
  have cx0 := (H8.out.ext hX).cell 0 (v := .func (.func 94) #[] #[.pointer (some ⟨O7, 0, none⟩)]) rfl
  have cxl := (H8.out.ext hX).lt
  have sx0 := (HS.out.ext hX).cell 0 (v := .int .i64 sl) rfl
  have sx1 := (HS.out.ext hX).cell 1 (v := .bool si) rfl
  have sxl := (HS.out.ext hX).lt
  have dx0 := (H10.out.ext hX).cell 0 (v := .int .i64 dart) rfl
  have dxl := (H10.out.ext hX).lt
  have tx0 := (H13.out.ext hX).cell 0 (v := .int .i64 tried) rfl
  have txl := (H13.out.ext hX).lt
  have xx0 := (H11.out.ext hX).cell 0 (v := .map (some nx)) rfl
  have xxl := (H11.out.ext hX).lt
  have zx0 := hbk15.cell 0 (v := .int .i64 h1) rfl
  have zx1 := hbk15.cell 1 (v := .bool h2') rfl
  have zxl := hbk15.lt
  have HOO := Lib.hid ((HO.out.ext hX).cell 0 (v := .map (some bo)) rfl)
  clear hX hbk15 hlk15
  cases e1 : ef == 1
  case true =>
    obtain rfl : ef = 1 := by simpa using e1
    have hw : wrap64 (dart + 1) = dart + 1 := wrap64_in' ⟨by omega, by omega⟩
    have HCA := Lib.hid (mean_from1 ⟨sl, true⟩ (dart + 1) tried O7 bo lo w1 HOO.out HLO1.out)
    unfold Gl.agg at HCA
    simp only at HCA
    gi_wp2_with fail
    refine ⟨trivial, CallsIn.inRound lp ((callsIn_wide.2 HCA.out).mono ?_)⟩
    rintro e w2 ⟨rfl, hm, hc⟩
    have HF : Hid (Q w2) := Lib.hid (by rw [HQ.out]; exact rnd_fin ((HX.out.chg _).trans (hc.mono fun k _ h => .inl h)) HLO.out HLN.out HBS.out hm (HLN1.out.chg hc (fun h => HNE.out h.symm)))
    clear hm hc
    gi_wp2
    exact HF.out
  cases e2 : ef == 2
  case true =>
    obtain rfl : ef = 2 := by simpa using e2
    have HCB := Lib.hid (mean_from1 ⟨0, false⟩ (dart + 1) tried O7 bo lo w1 HOO.out HLO1.out)
    unfold Gl.agg at HCB
    simp only at HCB
    have hw2 : wrap64 (dart + 1) = dart + 1 := wrap64_in' ⟨by omega, by omega⟩
    gi_wp2_with fail
    refine ⟨trivial, CallsIn.inRound lp ((callsIn_wide.2 HCB.out).mono ?_)⟩
    rintro e w2 ⟨rfl, hm, hc⟩
    have HF : Hid (Q w2) := Lib.hid (by rw [HQ.out]; exact rnd_fin ((HX.out.chg _).trans (hc.mono fun k _ h => .inl h)) HLO.out HLN.out HBS.out hm (HLN1.out.chg hc (fun h => HNE.out h.symm)))
    clear hm hc
    gi_wp2
    exact HF.out
  have n1 : ef ≠ 1 := by simpa using e1
  have n2 : ef ≠ 2 := by simpa using e2
  have HN12 := Lib.hid (And.intro n1 n2)
  clear n1 n2
  gi_wp2_with (gi_at_mapUpdate; refine wpIn_putL keyL_now under_level rfl _ _ _ rfl nx ln ⟨h1, h2', tried⟩ .yes rfl HLN1.out trivial rfl rfl ?_)
  intro w2 hm hc
  have HF : Hid (Q w2) := Lib.hid (by
    rw [HQ.out, show rndO ef sl dart tried lo = lo by unfold rndO; rw [if_neg HN12.out.1, if_neg HN12.out.2], show rndL ef ⟨h1, h2', tried⟩ ln = putL ln ⟨h1, h2', tried⟩ .yes by unfold rndL; rw [if_neg HN12.out.1, if_neg HN12.out.2]]
    exact rnd_fin ((HX.out.chg _).trans (hc.mono fun k _ h => .inr h)) HLO.out HLN.out HBS.out (HLO1.out.chg hc HNE.out) hm)
  clear hm hc
  gi_wp2
  exact HF.out
end Go.Proofs.Ytmopadnkjlodnaa
namespace Go.Proofs.Ytmopadnkjlodnaa
open Go.RowKit Go.BigFrame
attribute [local go_sem] Oper.semAt_some Later.cell Later.frozen Lat.cell Lat.frozen NoX
theorem chgm_grown {S : Nat → Prop} {w A B : World} {row : Option Nat} (h : Chg S w A) (hg : A.grownBy B row) (hr : ∀ r, row = some r → w.heap.size ≤ r) : Chg S w B :=
  ⟨hg.os.trans h.os, hg.tape.trans h.tape, hg.output.trans h.output, Nat.le_trans h.size hg.size, fun k hk hs => (hg.block k (Nat.lt_of_lt_of_le hk h.size) (fun e => by have := hr k e.symm; omega)).trans (h.block k hk hs)⟩
theorem MapL.grown {κ ν : Type} {ek : κ → Value} {ev : ν → Value} {A B : World} {b base : Nat} {l : List (κ × ν)} {row : Option Nat} (h : MapL ek ev A b l) (hb : b < base) (hg : A.grownBy B row) (hr : ∀ r, row = some r → base ≤ r) : MapL ek ev B b l := h.same (hg.block b h.lt (fun e => by have := hr b e.symm; omega))
theorem Blk.chgM {w W : World} {b bo nx : Nat} {cs : Array Value} {lo : List (Gl × Ex)} {ln : List (Nw × Yes)} (h : Blk w b cs) (hc : Chg (fun k => k = bo ∨ k = nx) w W) (h1 : MapL Gl.agg Ex.agg w bo lo) (h2 : MapL Nw.agg Yes.val w nx ln) : Blk W b cs :=
  h.chg hc (by obtain ⟨t, ht⟩ := h; rintro (rfl | rfl); exact h1.notCells ht; exact h2.notCells ht)
/-- What the two maps hold. -/
structure Two (w : World) (bo nx : Nat) (D : List Oc) (NX : List Nw) : Prop where
  ex : ∃ lo ln, MapL Gl.agg Ex.agg w bo lo ∧ OutR lo D ∧ MapL Nw.agg Yes.val w nx ln ∧ ∀ k, k ∈ ln.map (·.1) ↔ k ∈ NX
theorem Two.grown {A B : World} {bo nx base : Nat} {D : List Oc} {NX : List Nw} {row : Option Nat} (h : Two A bo nx D NX) (hb : bo < base ∧ nx < base) (hg : A.grownBy B row) (hr : ∀ r, row = some r → base ≤ r) : Two B bo nx D NX :=
  let ⟨lo, ln, h1, h2, h3, h4⟩ := h.ex; ⟨lo, ln, h1.grown hb.1 hg hr, h2, h3.grown hb.2 hg hr, h4⟩
theorem Two.ext {A B : World} {bo nx : Nat} {D : List Oc} {NX : List Nw} (h : Two A bo nx D NX) (hx : Ext A B) : Two B bo nx D NX :=
  let ⟨lo, ln, h1, h2, h3, h4⟩ := h.ex; ⟨lo, ln, h1.ext hx, h2, h3.ext hx, h4⟩
theorem Two.congr {A : World} {bo nx : Nat} {D D' : List Oc} {NX NX' : List Nw} (h : Two A bo nx D NX) (e1 : ∀ o, o ∈ D ↔ o ∈ D') (e2 : ∀ o, o ∈ NX ↔ o ∈ NX') : Two A bo nx D' NX' :=
  let ⟨lo, ln, h1, h2, h3, h4⟩ := h.ex; ⟨lo, ln, h1, h2.congr e1, h3, fun k => (h4 k).trans (e2 k)⟩
theorem two_round {gin gout : Int} {beds : List Int} {s : Sd} {dart : Nat} {n : Nw} {x : Int} {W : World} {bo nx : Nat} {D : List Oc} {NX : List Nw} {lo : List (Gl × Ex)} {ln : List (Nw × Yes)} (hl : (lo.map (·.1)).Nodup) (h2 : OutR lo D) (h4 : ∀ k, k ∈ ln.map (·.1) ↔ k ∈ NX)
    (h1 : MapL Gl.agg Ex.agg W bo (rndO (hitS gin gout n.left n.inn x).2.2 s.left dart (triN gin gout beds n) lo)) (h3 : MapL Nw.agg Yes.val W nx (rndL (hitS gin gout n.left n.inn x).2.2 ⟨(hitS gin gout n.left n.inn x).1, (hitS gin gout n.left n.inn x).2.1, triN gin gout beds n⟩ ln)) : Two W bo nx (D ++ out1N gin gout beds s dart n x) (NX ++ nxt1N gin gout beds n x) := by
  refine ⟨_, _, h1, ?_, h3, ?_⟩
  · unfold rndO out1N
    split
    · exact h2.add hl _ _ _
    · split
      · exact h2.add hl _ _ _
      · rw [List.append_nil]; exact h2
  · unfold rndL nxt1N
    split
    · rw [List.append_nil]; exact h4
    · split
      · rw [List.append_nil]; exact h4
      · intro k
        rw [putL_keys, List.mem_append, ← h4]
        split
        · rename_i hm
          constructor
          · exact .inl
          · rintro (h | h)
            · exact h
            · rw [List.mem_singleton] at h; rw [h]; exact hm
        · rw [List.mem_append]
set_option maxRecDepth 100000 in
set_option maxHeartbeats 8000000 in
theorem from_now (c : Code) (hc : codeFrom 15 (Try.f77.body.getD .skip) = some c) (Q : Exit → Act → World → Prop) (start gin gout left : Int) (s : Sd) (inn : Bool) (tr0 : Int) (dart : Nat) (beds : List Int) (bc : Nat) (ba : Option Addr) (bf B2 kb S3 O7 K8 K10 K11 K12 K13 bo nx : Nat) (D : List Oc) (NX : List Nw) (fi : Int) (ds : List Deferred) (w : World) (g0 g1 g4 g5 g6 g7 g9 g14 g15 g16 g17 g18 g19 g20 g21 g22 g23 g24 g25 g26 g27 g28 g29 g30 g31 g32 g33 g34 g35 g36 g37 g38 g39 g40 g41 g42 g43 g44 g45 g46 g47 g48 g49 g50 g51 g52 g53 g54 g55 g56 g57 g58 g59 g60 g61 g62 g63 g64 g65 g66 g67 g68 g69 g70 g71 g72 g73 g74 g75 g76 g77 g78 g79 g80 g81 g82 g83 g84 g85 g86 g87 g88 g89 g90 g91 g92 g93 g94 g95 g96 g97 g98 g99 g100 g101 g102 g103 g104 g105 g106 g107 g108 g109 g110 g111 g112 g113 g114 g115 g116 g117 g118 g119 g120 : Value)
    (h2 : Blk w B2 #[.pointer (some ⟨kb, 0, none⟩)]) (hk : Blk w kb #[.int .i64 start, .int .i64 gin, .int .i64 gout, .slice ba beds.length bc, .map (some bf)]) (hR : RdI S0 w (.slice ba beds.length bc) beds) (hS : Blk w S3 #[.int .i64 s.left, .bool s.inn]) (hO : Blk w O7 #[.map (some bo)]) (h8 : Blk w K8 #[.func (.func 94) #[] #[.pointer (some ⟨O7, 0, none⟩)]])
    (h10 : Blk w K10 #[.int .i64 dart]) (h11 : Blk w K11 #[.map (some nx)]) (h12 : Blk w K12 #[.int .i64 left, .bool inn, .int .i64 tr0]) (h13 : Blk w K13 #[.int .i64 (tr0 + fi)]) (hfi : finI gin gout beds left inn = fi) (ht : Two w bo nx D NX) (hne : bo ≠ nx) (hx : ∀ x, x = 0 ∨ x ∈ beds → I64 x ∧ I64 (left - wrt x)) (hd : dart ≤ 3) (htr : 0 ≤ tr0 ∧ tr0 ≤ 100) (hlen : beds.length ≤ 100)
    (hQ : ∀ (W : World) (Dm : Nat) (x55 x56 x57 x58 x59 : Value), w.heap.size ≤ Dm → W.heap[Dm]? = some (.deferred (some [])) → Two W bo nx (D ++ outN gin gout beds s dart ⟨left, inn, tr0⟩) (NX ++ nxtN gin gout beds ⟨left, inn, tr0⟩) → Chg (fun k => k = bo ∨ k = nx) w W → Q .normal { tmps := #[g0, g1, .pointer (some ⟨B2, 0, none⟩), .pointer (some ⟨S3, 0, none⟩), g4, g5, g6, g7, .pointer (some ⟨K8, 0, none⟩), g9, .pointer (some ⟨K10, 0, none⟩), .pointer (some ⟨K11, 0, none⟩), .pointer (some ⟨K12, 0, none⟩), .pointer (some ⟨K13, 0, none⟩), g14, g15, g16, g17, g18, g19, g20, g21, g22, g23, g24, g25, g26, g27, g28, g29, g30, g31, g32, g33, g34, g35, g36, g37, g38, g39, g40, g41, g42, g43, g44, g45, g46, g47, g48, g49, g50, g51, g52, g53, g54, x55, x56, x57, x58, x59, g60, g61, g62, g63, g64, g65, g66, g67, g68, g69, g70, g71, g72, g73, g74, g75, g76, g77, g78, g79, g80, g81, g82, g83, g84, g85, g86, g87, g88, g89, g90, g91, g92, g93, g94, g95, g96, g97, g98, g99, g100, g101, g102, g103, g104, g105, g106, g107, g108, g109, g110, g111, g112, g113, g114, g115, g116, g117, g118, g119, g120], defers := { target := .collected Dm, args := #[] } :: ds } W) :
    c.wpIn Fence.wide 8 Try.prog Q { tmps := #[g0, g1, .pointer (some ⟨B2, 0, none⟩), .pointer (some ⟨S3, 0, none⟩), g4, g5, g6, g7, .pointer (some ⟨K8, 0, none⟩), g9, .pointer (some ⟨K10, 0, none⟩), .pointer (some ⟨K11, 0, none⟩), .pointer (some ⟨K12, 0, none⟩), .pointer (some ⟨K13, 0, none⟩), g14, g15, g16, g17, g18, g19, g20, g21, g22, g23, g24, g25, g26, g27, g28, g29, g30, g31, g32, g33, g34, g35, g36, g37, g38, g39, g40, g41, g42, g43, g44, g45, g46, g47, g48, g49, g50, g51, g52, g53, g54, g55, g56, g57, g58, g59, g60, g61, g62, g63, g64, g65, g66, g67, g68, g69, g70, g71, g72, g73, g74, g75, g76, g77, g78, g79, g80, g81, g82, g83, g84, g85, g86, g87, g88, g89, g90, g91, g92, g93, g94, g95, g96, g97, g98, g99, g100, g101, g102, g103, g104, g105, g106, g107, g108, g109, g110, g111, g112, g113, g114, g115, g116, g117, g118, g119, g120], defers := ds } w := by
  simp only [Try.f77, Option.getD_some, codeFrom, ↓reduceIte, Nat.reduceEqDiff, Option.some.injEq] at hc
  subst hc
  have hfb : 0 ≤ fi ∧ fi ≤ 1 := by rw [← hfi]; unfold finI; split <;> decide
  have htri : triN gin gout beds ⟨left, inn, tr0⟩ = tr0 + fi := by unfold triN; simp only; rw [hfi]
  have HTRI := Lib.hid htri
  have HFI := Lib.hid hfi
  have H2 := Lib.hid h2
  have HK := Lib.hid hk
  have HR := Lib.hid hR
  have HS := Lib.hid hS
  have HO := Lib.hid hO
  have H8 := Lib.hid h8
  have H10 := Lib.hid h10
  have H11 := Lib.hid h11
  have HT := Lib.hid ht
  have H12 := Lib.hid h12
  have H13 := Lib.hid h13
  have HNE := Lib.hid hne
  have HQ := Lib.hid hQ
  have HX := Lib.hid hx
  have HLEN := Lib.hid hlen
  have HFB := Lib.hid hfb
  have HTR := Lib.hid htr
  have HD := Lib.hid hd
  obtain ⟨sl, si⟩ := s
  simp only at HS
  clear h13 h12 hQ h2 hk hR hS hO h8 h10 h11 ht hne hx hlen hfi htri hfb htr hd
  have HX2 := Lib.hid (Ext.refl w)
  have m0 := (H2.out.ext HX2.out).cell 0 (v := .pointer (some ⟨kb, 0, none⟩)) rfl
  have ml := (H2.out.ext HX2.out).lt
  have q0 := (HK.out.ext HX2.out).cell 0 (v := .int .i64 start) rfl
  have q1 := (HK.out.ext HX2.out).cell 1 (v := .int .i64 gin) rfl
  have q2 := (HK.out.ext HX2.out).cell 2 (v := .int .i64 gout) rfl
  have q3 := (HK.out.ext HX2.out).cell 3 (v := .slice ba beds.length bc) rfl
  have q4 := (HK.out.ext HX2.out).cell 4 (v := .map (some bf)) rfl
  have ql := (HK.out.ext HX2.out).lt
  have HSEQ := Lib.hid (all_seq 7 start gin gout beds ba bc w (HR.out.ext HX2.out) (by have := HLEN.out; omega))
  have HT2 := Lib.hid (HT.out.ext HX2.out)
  obtain ⟨lo0, ln0, hlo0, -, hln0, -⟩ := HT2.out.ex
  have HM0 := Lib.hid (And.intro hlo0 hln0)
  have HBN : Hid (bo < w.heap.size ∧ nx < w.heap.size) := Lib.hid ⟨hlo0.lt, hln0.lt⟩
  clear hlo0 hln0
  gi_wp2
  clear m0 ml q0 q1 q2 q3 q4 ql
  refine wpIn_rangeFunc_b (α := Int) (by decide) (gf := 81) (fb := #[.agg #[.int .i64 start, .int .i64 gin, .int .i64 gout, .slice ba beds.length bc]]) (lb := #[]) rfl enters_all HSEQ.out Kc.trans (fun W l o o' _ h ho _ => Kc.put S0 W l o o' h ho) (fun _ => rfl)
    (fun pre W => Two W bo nx (D ++ pre.flatMap (out1N gin gout beds ⟨sl, si⟩ dart ⟨left, inn, tr0⟩)) (NX ++ pre.flatMap (nxt1N gin gout beds ⟨left, inn, tr0⟩)) ∧ Chg (fun k => k = bo ∨ k = nx) w W) ?hI ?hV ?h0
    (fun x a' _ => a' = { tmps := #[g0, g1, .pointer (some ⟨B2, 0, none⟩), .pointer (some ⟨S3, 0, none⟩), g4, g5, g6, g7, .pointer (some ⟨K8, 0, none⟩), g9, .pointer (some ⟨K10, 0, none⟩), .pointer (some ⟨K11, 0, none⟩), .pointer (some ⟨K12, 0, none⟩), .pointer (some ⟨K13, 0, none⟩), .int .i64 x, g15, g16, g17, g18, g19, g20, g21, g22, g23, g24, g25, g26, g27, g28, g29, g30, g31, g32, g33, g34, g35, g36, g37, g38, g39, g40, g41, g42, g43, g44, g45, g46, g47, g48, g49, g50, g51, g52, g53, g54, .pointer (some ⟨kb, 0, none⟩), .pointer (some ⟨kb, 0, none⟩), .pointer (some ⟨kb, 0, none⟩), .agg #[.int .i64 start, .int .i64 gin, .int .i64 gout, .slice ba beds.length bc], .func (.func 81) #[.agg #[.int .i64 start, .int .i64 gin, .int .i64 gout, .slice ba beds.length bc]] #[], .int .i64 x, g61, g62, g63, g64, g65, g66, g67, g68, g69, g70, g71, g72, g73, g74, g75, g76, g77, g78, g79, g80, g81, g82, g83, g84, g85, g86, g87, g88, g89, g90, g91, g92, g93, g94, g95, g96, g97, g98, g99, g100, g101, g102, g103, g104, g105, g106, g107, g108, g109, g110, g111, g112, g113, g114, g115, g116, g117, g118, g119, g120], defers := [] }) ?hAx ?assign ?body ?done
  case hI =>
    rintro pre A B row ⟨h1, h2⟩ hg hr
    exact ⟨h1.grown HBN.out hg (fun r e => (hr r e).1), chgm_grown h2 hg (fun r e => (hr r e).1)⟩
  case hV => intro pre x u A B row h _ _; exact h
  case h0 => exact ⟨by simpa using HT2.out, Chg.refl _ _⟩
  case hAx => intro x a' u A B row h _ _; exact h
  case assign =>
    intro l pre x W K hi hv hK
    have HKK := Lib.hid (hK _ W (KeepsFrom.refl _ _) (Kc.refl _ _) hi hv rfl)
    clear hK hi hv
    dsimp only
    gi_wp2
    exact HKK.out
  case body =>
    rintro l pre x a' W ⟨ht, hc⟩ hv rfl
    obtain ⟨lo, ln, m1, m2, m3, m4⟩ := ht.ex
    have kp : ∀ {b cs}, Blk w b cs → Blk W b cs := fun h => h.chgM hc HM0.out.1 HM0.out.2
    refine wpIn_mono (from_round _ (by kernel_rfl) l start gin gout sl left x dart (tr0 + fi) tr0 si inn beds.length bc ba bf B2 kb S3 O7 K8 K10 K11 K12 K13 bo nx w.heap.size lo ln W _ _ _ _ _ _ _ _ _ _ _ _ _ _ _ _ _ _ _ _ _ _ _ _ _ _ _ _ _ _ _ _ _ _ _ _ _ _ _ _ _ _ _ _ _ _ _ _ _ _ _ _ _ _ _ _ _ _ _ _ _ _ _ _ _ _ _ _ _ _ _ _ _ _ _ _ _ _ _ _ _ _ _ _ _ _ _ _ _ _ _ _ _ _ _ _ _ _ _ _ _ _ _ _ _ _ _ _ _ _ _ _ _
      (kp (H2.out.ext HX2.out)) (kp (HK.out.ext HX2.out)) (kp (HS.out.ext HX2.out)) (kp (HO.out.ext HX2.out)) (kp (H8.out.ext HX2.out)) (kp (H10.out.ext HX2.out)) (kp (H11.out.ext HX2.out)) (kp (H12.out.ext HX2.out)) (kp (H13.out.ext HX2.out)) m1 m3 HNE.out (HX.out x hv).1 (HX.out x hv).2 ⟨by omega, by have := HD.out; omega⟩ HBN.out.1 HBN.out.2) ?_
    rintro e a'' W' ⟨rfl, k1, k2, k3, k4, k5⟩
    refine ⟨rfl, k1, k2, ?_, hc.trans k5⟩
    rw [← HTRI.out] at k3 k4
    have := two_round (s := ⟨sl, si⟩) (dart := dart) (n := ⟨left, inn, tr0⟩) m1.nodup m2 m4 k3 k4
    rw [List.flatMap_append, List.flatMap_append, ← List.append_assoc, ← List.append_assoc]
    simpa using this
  case done =>
    rintro Dm xs W hD rfl ⟨ht, hc⟩ hk
    exact HQ.out W Dm _ _ _ _ _ (Nat.le_trans HX2.out.size hD) hk ht ((HX2.out.chg _).trans hc)
end Go.Proofs.Ytmopadnkjlodnaa
namespace Go.Proofs.Ytmopadnkjlodnaa
open Go.RowKit Go.BigFrame
attribute [local go_sem] Oper.semAt_some Later.cell Later.frozen Lat.cell Lat.frozen NoX
theorem Two.chg {S : Nat → Prop} {A B : World} {bo nx : Nat} {D : List Oc} {NX : List Nw} (h : Two A bo nx D NX) (hx : Chg S A B) (h1 : ¬ S bo) (h2 : ¬ S nx) : Two B bo nx D NX :=
  let ⟨lo, ln, m1, m2, m3, m4⟩ := h.ex; ⟨lo, ln, m1.chg hx h1, m2, m3.chg hx h2, m4⟩
theorem Two.kc {A B : World} {bo nx : Nat} {D : List Oc} {NX : List Nw} (h : Two A bo nx D NX) (hx : Chg (fun k => k = bo ∨ k = nx) A B) : Kc S0 A B :=
  let ⟨_, _, m1, _, m3, _⟩ := h.ex; ⟨hx.size, fun k cs t f hk _ => hx.heap hk (by rintro (rfl | rfl); exact m1.notCells hk; exact m3.notCells hk)⟩
theorem Two.ne {A : World} {bo nx D' : Nat} {D : List Oc} {NX : List Nw} (h : Two A bo nx D NX) {o : Option (List Deferred)} (hd : A.heap[D']? = some (.deferred o)) : D' ≠ bo ∧ D' ≠ nx := by
  obtain ⟨_, _, m1, _, m3, _⟩ := h.ex
  obtain ⟨_, _, e1, -⟩ := m1.ex
  obtain ⟨_, _, e2, -⟩ := m3.ex
  constructor <;> (rintro rfl; simp_all)
theorem IterL.notCells {κ ν : Type} {ek : κ → Value} {ev : ν → Value} {w : World} {r b : Nat} {l : List (κ × ν)} (h : IterL ek ev w r b l) : (∀ cs t f, w.heap[r]? ≠ some (.cells cs t f)) ∧ ∀ o, w.heap[r]? ≠ some (.deferred o) := by
  obtain ⟨_, _, _, h1, -⟩ := h.ex
  constructor <;> (intros; rw [h1]; intro e; cases e)
/-- What stands between two rounds of the loop over the level. -/
structure LvI (w : World) (bo nx R lv lo0 : Nat) (D : List Oc) (NX LV : List Nw) (fo : Nw → List Oc) (fx : Nw → List Nw) (W : World) (left : List (Nw × Yes)) (dn : List Nw) (dsn : List Nat) : Prop where
  it : IterL Nw.agg Yes.val W R lv left
  all : ∀ k, k ∈ LV ↔ k ∈ dn ∨ k ∈ left.map (·.1)
  two : Two W bo nx (D ++ dn.flatMap fo) (NX ++ dn.flatMap fx)
  chg : Chg (fun k => k = bo ∨ k = nx ∨ k = R) w W
  kc : Kc S0 w W
  marks : Marks lo0 W dsn
set_option maxRecDepth 100000 in
set_option maxHeartbeats 8000000 in
theorem from_level (c : Code) (hc : codeBlk 2 (Try.f77.body.getD .skip) = some (.block 2 c)) (Q : Exit → Act → World → Prop) (start gin gout : Int) (s : Sd) (dart : Nat) (beds : List Int) (bc : Nat) (ba : Option Addr) (bf B2 kb S3 O7 K8 K10 K11 bo nx R lv lo0 : Nat) (D : List Oc) (NX LV : List Nw) (left0 : List (Nw × Yes)) (dsn : List Nat) (w : World) (g0 g1 g4 g5 g6 g7 g9 g12 g13 g14 g15 g16 g17 g18 g19 g20 g21 g22 g23 g24 g25 g26 g27 g28 g29 g30 g31 g32 g33 g34 g35 g36 g37 g38 g39 g41 g42 g43 g44 g45 g46 g47 g48 g49 g50 g51 g52 g53 g54 g55 g56 g57 g58 g59 g60 g61 g62 g63 g64 g65 g66 g67 g68 g69 g70 g71 g72 g73 g74 g75 g76 g77 g78 g79 g80 g81 g82 g83 g84 g85 g86 g87 g88 g89 g90 g91 g92 g93 g94 g95 g96 g97 g98 g99 g100 g101 g102 g103 g104 g105 g106 g107 g108 g109 g110 g111 g112 g113 g114 g115 g116 g117 g118 g119 g120 : Value)
    (h2 : Blk w B2 #[.pointer (some ⟨kb, 0, none⟩)]) (hk : Blk w kb #[.int .i64 start, .int .i64 gin, .int .i64 gout, .slice ba beds.length bc, .map (some bf)]) (hR : RdI S0 w (.slice ba beds.length bc) beds) (hS : Blk w S3 #[.int .i64 s.left, .bool s.inn]) (hO : Blk w O7 #[.map (some bo)]) (h8 : Blk w K8 #[.func (.func 94) #[] #[.pointer (some ⟨O7, 0, none⟩)]])
    (h10 : Blk w K10 #[.int .i64 dart]) (h11 : Blk w K11 #[.map (some nx)]) (ht : Two w bo nx D NX) (hit : IterL Nw.agg Yes.val w R lv left0) (hlv : ∀ k, k ∈ LV ↔ k ∈ left0.map (·.1)) (hm : Marks lo0 w dsn) (hl0 : lo0 ≤ w.heap.size) (hne : bo ≠ nx ∧ R ≠ bo ∧ R ≠ nx ∧ lv ≠ bo ∧ lv ≠ nx) (hx : ∀ n ∈ LV, (∀ x, x = 0 ∨ x ∈ beds → I64 x ∧ I64 (n.left - wrt x)) ∧ 0 ≤ n.tried ∧ n.tried ≤ 100) (hd : dart ≤ 3) (hlen : beds.length ≤ 100)
    (hQ : ∀ (W : World) (dsn' : List Nat) (x12 x13 x41 x42 x43 x44 x45 x46 x47 x48 x49 x50 x51 x52 x53 x54 x55 x56 x57 x58 x59 : Value), Two W bo nx (D ++ LV.flatMap (outN gin gout beds s dart)) (NX ++ LV.flatMap (nxtN gin gout beds)) → Chg (fun k => k = bo ∨ k = nx ∨ k = R) w W → Kc S0 w W → Marks lo0 W dsn' → Q (.exit 2) { tmps := #[g0, g1, .pointer (some ⟨B2, 0, none⟩), .pointer (some ⟨S3, 0, none⟩), g4, g5, g6, g7, .pointer (some ⟨K8, 0, none⟩), g9, .pointer (some ⟨K10, 0, none⟩), .pointer (some ⟨K11, 0, none⟩), x12, x13, g14, g15, g16, g17, g18, g19, g20, g21, g22, g23, g24, g25, g26, g27, g28, g29, g30, g31, g32, g33, g34, g35, g36, g37, g38, g39, .pointer (some ⟨R, 0, none⟩), x41, x42, x43, x44, x45, x46, x47, x48, x49, x50, x51, x52, x53, x54, x55, x56, x57, x58, x59, g60, g61, g62, g63, g64, g65, g66, g67, g68, g69, g70, g71, g72, g73, g74, g75, g76, g77, g78, g79, g80, g81, g82, g83, g84, g85, g86, g87, g88, g89, g90, g91, g92, g93, g94, g95, g96, g97, g98, g99, g100, g101, g102, g103, g104, g105, g106, g107, g108, g109, g110, g111, g112, g113, g114, g115, g116, g117, g118, g119, g120], defers := dsn'.map markOf } W) :
    c.wpIn Fence.wide 8 Try.prog Q { tmps := #[g0, g1, .pointer (some ⟨B2, 0, none⟩), .pointer (some ⟨S3, 0, none⟩), g4, g5, g6, g7, .pointer (some ⟨K8, 0, none⟩), g9, .pointer (some ⟨K10, 0, none⟩), .pointer (some ⟨K11, 0, none⟩), g12, g13, g14, g15, g16, g17, g18, g19, g20, g21, g22, g23, g24, g25, g26, g27, g28, g29, g30, g31, g32, g33, g34, g35, g36, g37, g38, g39, .pointer (some ⟨R, 0, none⟩), g41, g42, g43, g44, g45, g46, g47, g48, g49, g50, g51, g52, g53, g54, g55, g56, g57, g58, g59, g60, g61, g62, g63, g64, g65, g66, g67, g68, g69, g70, g71, g72, g73, g74, g75, g76, g77, g78, g79, g80, g81, g82, g83, g84, g85, g86, g87, g88, g89, g90, g91, g92, g93, g94, g95, g96, g97, g98, g99, g100, g101, g102, g103, g104, g105, g106, g107, g108, g109, g110, g111, g112, g113, g114, g115, g116, g117, g118, g119, g120], defers := dsn.map markOf } w := by
  simp only [Try.f77, Option.getD_some, codeBlk, ↓reduceIte, Nat.reduceEqDiff, Option.some.injEq, Code.block.injEq, true_and] at hc
  subst hc
  have H2 := Lib.hid h2
  have HK := Lib.hid hk
  have HR := Lib.hid hR
  have HS := Lib.hid hS
  have HO := Lib.hid hO
  have H8 := Lib.hid h8
  have H10 := Lib.hid h10
  have H11 := Lib.hid h11
  have HNE := Lib.hid hne
  have HQ := Lib.hid hQ
  have HX := Lib.hid hx
  have HLEN := Lib.hid hlen
  have HD := Lib.hid hd
  have HL0 := Lib.hid hl0
  have HI0 : Hid (LvI w bo nx R lv lo0 D NX LV (outN gin gout beds s dart) (nxtN gin gout beds) w left0 [] dsn) := Lib.hid ⟨hit, by simpa using hlv, by simpa using ht, Chg.refl _ _, Kc.refl _ _, hm⟩
  clear hQ h2 hk hR hS hO h8 h10 h11 ht hne hx hlen hd hl0 hm hlv hit
  refine wpIn_loop (fun a' W => ∃ (x12 x13 x41 x42 x43 x44 x45 x46 x47 x48 x49 x50 x51 x52 x53 x54 x55 x56 x57 x58 x59 : Value) (left : List (Nw × Yes)) (dn : List Nw) (dsn' : List Nat), LvI w bo nx R lv lo0 D NX LV (outN gin gout beds s dart) (nxtN gin gout beds) W left dn dsn' ∧ a' = { tmps := #[g0, g1, .pointer (some ⟨B2, 0, none⟩), .pointer (some ⟨S3, 0, none⟩), g4, g5, g6, g7, .pointer (some ⟨K8, 0, none⟩), g9, .pointer (some ⟨K10, 0, none⟩), .pointer (some ⟨K11, 0, none⟩), x12, x13, g14, g15, g16, g17, g18, g19, g20, g21, g22, g23, g24, g25, g26, g27, g28, g29, g30, g31, g32, g33, g34, g35, g36, g37, g38, g39, .pointer (some ⟨R, 0, none⟩), x41, x42, x43, x44, x45, x46, x47, x48, x49, x50, x51, x52, x53, x54, x55, x56, x57, x58, x59, g60, g61, g62, g63, g64, g65, g66, g67, g68, g69, g70, g71, g72, g73, g74, g75, g76, g77, g78, g79, g80, g81, g82, g83, g84, g85, g86, g87, g88, g89, g90, g91, g92, g93, g94, g95, g96, g97, g98, g99, g100, g101, g102, g103, g104, g105, g106, g107, g108, g109, g110, g111, g112, g113, g114, g115, g116, g117, g118, g119, g120], defers := dsn'.map markOf }) (fun _ W => itLeft W R lv) ⟨g12, g13, g41, g42, g43, g44, g45, g46, g47, g48, g49, g50, g51, g52, g53, g54, g55, g56, g57, g58, g59, left0, [], dsn, HI0.out, rfl⟩ ?_
  rintro a' wr ⟨x12, x13, x41, x42, x43, x44, x45, x46, x47, x48, x49, x50, x51, x52, x53, x54, x55, x56, x57, x58, x59, left, dn, dsn', hI, rfl⟩
  have HI := Lib.hid hI
  clear hI
  dsimp only
  gi_wp2_with (gi_at_next; refine wpIn_nextL rfl _ rfl R lv left rfl HI.out.it ?_ ?_)
  · rintro rfl
    have HF : Hid (Two wr bo nx (D ++ LV.flatMap (outN gin gout beds s dart)) (NX ++ LV.flatMap (nxtN gin gout beds))) := Lib.hid (by
      have hall := HI.out.all
      simp only [List.map_nil, List.not_mem_nil, or_false] at hall
      exact HI.out.two.congr (fun o => by simp only [List.mem_append, List.mem_flatMap, hall]) (fun o => by simp only [List.mem_append, List.mem_flatMap, hall]))
    gi_wp2
    exact HQ.out wr dsn' _ _ _ _ _ _ _ _ _ _ _ _ _ _ _ _ _ _ _ _ _ HF.out HI.out.chg HI.out.kc HI.out.marks
  · intro n y pre post w5 hsp hit5 hc5 hen
    obtain ⟨nl, ni, nt⟩ := n
    unfold Nw.agg Yes.val at hen
    simp only at hen
    have hmem : (⟨nl, ni, nt⟩ : Nw) ∈ LV := (HI.out.all _).2 (.inr (by rw [hsp]; simp))
    have hbd := HX.out _ hmem
    simp only at hbd
    have HBD := Lib.hid hbd
    have HALL : Hid (∀ k, k ∈ LV ↔ k ∈ dn ++ [(⟨nl, ni, nt⟩ : Nw)] ∨ k ∈ (pre ++ post).map (·.1)) := Lib.hid (fun k => by
      rw [HI.out.all, hsp]
      simp only [List.map_append, List.map_cons, List.mem_append, List.mem_cons, List.not_mem_nil, or_false]
      constructor
      · rintro (h | h | h | h)
        · exact .inl (.inl h)
        · exact .inr (.inl h)
        · exact .inl (.inr h)
        · exact .inr (.inr h)
      · rintro ((h | h) | (h | h))
        · exact .inl h
        · exact .inr (.inr (.inl h))
        · exact .inr (.inl h)
        · exact .inr (.inr (.inr h)))
    have HMEA : Hid (itLeft w5 R lv < itLeft wr R lv) := Lib.hid (by rw [HI.out.it.count, hit5.count, hsp]; simp)
    have HIT5 := Lib.hid hit5
    have HC5 := Lib.hid hc5
    have HT5 := Lib.hid (HI.out.two.chg hc5 (fun e => HNE.out.2.1 e.symm) (fun e => HNE.out.2.2.1 e.symm))
    have HKC5 : Hid (Kc S0 w w5) := Lib.hid (HI.out.kc.trans ⟨hc5.size, fun k cs t f hk _ => hc5.heap hk (by rintro rfl; exact HI.out.it.notCells.1 _ _ _ hk)⟩)
    have HM5 : Hid (Marks lo0 w5 dsn') := Lib.hid (HI.out.marks.chg hc5 (fun D' hD e => by
      have h1 := (HI.out.marks.all D' hD).2
      rw [show D' = R from e] at h1
      exact HI.out.it.notCells.2 _ h1))
    have HSZ5 := Lib.hid (Nat.le_trans HL0.out HKC5.out.size)
    clear hmem hbd hsp hit5 hc5
    gi_upto_region 14 with fail
    obtain ⟨w6, hw6⟩ : ∃ y, y = w5.alloc (.cells #[.int .i64 nl, .bool ni, .int .i64 nt] 127) := ⟨_, rfl⟩
    rw [← hw6]
    obtain ⟨K12, hk12⟩ : ∃ y, y = w5.heap.size := ⟨_, rfl⟩
    rw [← hk12]
    have hx6 : Ext w5 w6 := by rw [hw6]; exact (Ext.refl w5).alloc _
    have HB12 : Hid (Blk w6 K12 #[.int .i64 nl, .bool ni, .int .i64 nt]) := Lib.hid (by rw [hw6, hk12]; exact Blk.new _ _ _)
    have HX6 := Lib.hid hx6
    have HKC6 := Lib.hid (HKC5.out.ext hx6)
    clear hw6 hk12 hx6 hen
    have l2 := (HKC6.out.blk H2.out id).lt
    have lk := (HKC6.out.blk HK.out id).lt
    have l12 := HB12.out.lt
    obtain ⟨fi, hfi⟩ : ∃ v, finI gin gout beds nl ni = v := ⟨_, rfl⟩
    have HFI := Lib.hid hfi
    have HFB : Hid (0 ≤ fi ∧ fi ≤ 1) := Lib.hid (by rw [← hfi]; unfold finI; split <;> decide)
    clear hfi
    have HFIN : Hid (∀ W, Ext w6 W → Calls Try.prog 80 #[.agg #[.int .i64 start, .int .i64 gin, .int .i64 gout, .slice ba beds.length bc], .agg #[.int .i64 nl, .bool ni]] W fun e w' => e = .returned (.int .i64 fi) ∧ Ext W w') := Lib.hid (fun W hX => by
      have := mean_isFinish start gin gout nl ni beds ba bc W (rd_cells (HR.out.keep (HKC6.out.ext hX))).2 (by have := HLEN.out; omega) (fun x hx => HBD.out.1 x (.inr hx))
      rw [HFI.out] at this
      exact this)
    have hw : wrap64 (nt + fi) = nt + fi := wrap64_in' ⟨by have := HBD.out.2; have := HFB.out; omega, by have := HBD.out.2; have := HFB.out; omega⟩
    have m0 : ∀ y : Lat (fun b _ => w6.heap.size ≤ b) w6, y.world.cell? ⟨B2, 0, none⟩ = some (.pointer (some ⟨kb, 0, none⟩)) := fun y => ((HKC6.out.blk H2.out id).ext (Lat.ext1 y)).cell 0 rfl
    have q0 : ∀ y : Lat (fun b _ => w6.heap.size ≤ b) w6, y.world.cell? ⟨kb, 0, none⟩ = some (.int .i64 start) := fun y => ((HKC6.out.blk HK.out id).ext (Lat.ext1 y)).cell 0 rfl
    have q1 : ∀ y : Lat (fun b _ => w6.heap.size ≤ b) w6, y.world.cell? ⟨kb, 1, none⟩ = some (.int .i64 gin) := fun y => ((HKC6.out.blk HK.out id).ext (Lat.ext1 y)).cell 1 rfl
    have q2 : ∀ y : Lat (fun b _ => w6.heap.size ≤ b) w6, y.world.cell? ⟨kb, 2, none⟩ = some (.int .i64 gout) := fun y => ((HKC6.out.blk HK.out id).ext (Lat.ext1 y)).cell 2 rfl
    have q3 : ∀ y : Lat (fun b _ => w6.heap.size ≤ b) w6, y.world.cell? ⟨kb, 3, none⟩ = some (.slice ba beds.length bc) := fun y => ((HKC6.out.blk HK.out id).ext (Lat.ext1 y)).cell 3 rfl
    have q4 : ∀ y : Lat (fun b _ => w6.heap.size ≤ b) w6, y.world.cell? ⟨kb, 4, none⟩ = some (.map (some bf)) := fun y => ((HKC6.out.blk HK.out id).ext (Lat.ext1 y)).cell 4 rfl
    have n0 : ∀ y : Lat (fun b _ => w6.heap.size ≤ b) w6, y.world.cell? ⟨K12, 0, none⟩ = some (.int .i64 nl) := fun y => (HB12.out.ext (Lat.ext1 y)).cell 0 rfl
    have n1 : ∀ y : Lat (fun b _ => w6.heap.size ≤ b) w6, y.world.cell? ⟨K12, 1, none⟩ = some (.bool ni) := fun y => (HB12.out.ext (Lat.ext1 y)).cell 1 rfl
    have n2 : ∀ y : Lat (fun b _ => w6.heap.size ≤ b) w6, y.world.cell? ⟨K12, 2, none⟩ = some (.int .i64 nt) := fun y => (HB12.out.ext (Lat.ext1 y)).cell 2 rfl
    refine wpIn_calls (by kernel_rfl) [.no, .no, .no, .no, .no, .no, .no, .no, .of (fun v => v = .int .i64 fi) (.int .i64 fi) rfl, .no, .ptr, .any] w6.heap.size (fun (c : (Nat × World)) => c.2.heap.size)
      (fun (c : (Nat × World)) L u => [bif L 8 then Res.snap c else Res.none, bif L 8 then Res.pure (Ext w6 c.2 ∧ w6.heap.size ≤ c.1 ∧ Nop (u 8) c.1 c.2) else Res.none, bif L 10 then Res.blk (ptrAt (u 10)) (bif L 11 then #[.int .i64 (nt + fi)] else #[.int .i64 0]) else Res.none])
      (0, w6) (by kernel_rfl) (Nat.le_of_ble_eq_true rfl) (fun c L L' u hh => by simp only [hh 8 rfl, hh 10 rfl, hh 11 rfl]) (by simp) (fun _ => Frm.nones _ 3 w6) ?_
    intro T hT hne u hu
    have u8 : u 8 = .int .i64 fi := hu 8 rfl
    obtain ⟨k13, u10⟩ : ∃ k, u 10 = .pointer (some ⟨k, 0, none⟩) := hu 10 rfl
    clear hu
    refine lx_next 8 (by rfl) (by decide) ?_
    dsimp only [List.take, List.drop]
    repeat (go_big_quiet_step (fail))
    refine wpQuiet_nil ?_
    refine lx_loud (by rfl) (by kernel_rfl) ?_ (fun K hK => ?_)
    · intro L w3 hL hd hcl hC hs
      obtain ⟨y, rfl⟩ := hC
      obtain ⟨c, hmc, hs⟩ := hs
      have hzs := y.size
      simp only [hL, cond_false] at hs
      have hX : Ext w6 y.world := Chg.to_ext (Ext.refl w6) y.chg (by rintro i ⟨_, h⟩; exact h)
      have hmc2 : c.2.heap.size ≤ y.world.heap.size := hmc
      have HS8 := Lib.hid hs
      clear hs
      go_wp2_with fail
      refine (HFIN.out _ hX).mono ?_
      rintro e w' ⟨rfl, hx⟩
      have hsz' := hx.size
      have HV : Hid (Nop (.int .i64 fi) y.world.heap.size w') := Lib.hid .mk
      go_wp2
      exact lik_call y (Nat.le_refl _) rfl HS8.out 0 1 (by decide) rfl rfl hx (y.world.heap.size, w') (by show w'.heap.size ≤ w'.heap.size; omega) (φ := Ext w6 w' ∧ w6.heap.size ≤ y.world.heap.size ∧ Nop _ y.world.heap.size w') ⟨hX.trans hx, hzs, HV.out⟩ (by first | (simp [upd, updv, hL]; done) | (simp [upd, updv, hL]; rfl))
    rw [u8]
    go_simp
    with_reducible refine hK _ ?_
    clear hK K
    refine lx_next 1 (by rfl) (by decide) ?_
    dsimp only [List.take, List.drop]
    repeat (go_big_quiet_step (fail))
    refine wpQuiet_nil ?_
    refine lx_loud (by rfl) (by kernel_rfl) ?_ (fun K hK => ?_)
    · intro L w3 hL hd hcl hC hs
      obtain ⟨y, rfl⟩ := hC
      obtain ⟨c, hmc, hs⟩ := hs
      have hzs := y.size
      have h11 := hcl.off hL 40 11 (by kernel_rfl)
      simp only [hL, h11, cond_false] at hs
      go_wp2
      exact lik_set y (Nat.le_refl _) ⟨_, rfl⟩ hs 2 (r' := Res.blk y.world.heap.size #[.int .i64 0]) rfl (((Ext.refl y.world).alloc _).chg _) (Blk.new _ _ _) (fun k hk => .inr (by rw [show k = y.world.heap.size from hk]; simp)) c hmc (by first | (simp [upd, updv, hL, h11]; done) | (simp [upd, updv, hL, h11]; rfl))
    rw [u10]
    go_simp
    with_reducible refine hK _ ?_
    clear hK K
    refine lx_loud (by rfl) (by kernel_rfl) ?_ (fun K hK => ?_)
    · intro L w3 hL hd hcl hC hs
      obtain ⟨y, rfl⟩ := hC
      obtain ⟨c, hmc, hs⟩ := hs
      have hzs := y.size
      have h10 := hd 10 (by kernel_rfl)
      simp only [hL, h10, cond_true, cond_false] at hs
      rw [u10] at hs
      have hb : Blk y.world k13 #[.int .i64 0] := hs.get 2 rfl
      have hlt := hb.lt
      have q0 := hb.cell 0 (v := .int .i64 0) rfl
      have f0 := hb.frozen 0
      go_wp2
      exact lik_set y (Nat.le_refl _) trivial hs 2 rfl (one_chg (fun k => k = k13) _ rfl _ ) (r' := Res.blk k13 #[.int .i64 (nt + fi)]) (one_set hb _ ) (fun _ hk => .inl hk) c hmc (by first | (simp [upd, updv, hL, h10, u10, ptrAt]; done) | (simp [upd, updv, hL, h10, u10, ptrAt]; rfl))
    go_simp
    with_reducible refine hK _ ?_
    clear hK K
    refine lx_nil ?_
    intro y hs
    obtain ⟨c, hmc, hs⟩ := hs
    rw [u8, u10] at hs
    have hX : Ext w6 y.world := Chg.to_ext (Ext.refl w6) y.chg (by rintro i ⟨_, h⟩; exact h)
    have hmc2 : c.2.heap.size ≤ y.world.heap.size := hmc
    have hp8 : Ext w6 c.2 ∧ w6.heap.size ≤ c.1 ∧ Nop (.int .i64 fi) c.1 c.2 := hs.get 1 rfl
    have hr8 := hp8.2.2.chg (snap_chg (hs.get 0 rfl) hp8.1 hX (by omega)) (fun k hk => hk.2)
    have hsl8 := hp8.2.1
    have hbk13 : Blk y.world k13 #[.int .i64 (nt + fi)] := hs.get 2 rfl
    have hlk13 := hs.lt 2 rfl k13 rfl
    generalize c.1 = sz8 at *
    clear hs hp8 hmc hmc2 hT hne u8 u10
    generalize y.world = w7 at *
    clear m0 q0 q1 q2 q3 q4 n0 n1 n2 l2 lk l12 hw
    have HKC7 := Lib.hid (HKC6.out.ext hX)
    have HX7 := Lib.hid (HX6.out.trans hX)
    have HB13 := Lib.hid hbk13
    have HB12' := Lib.hid (HB12.out.ext hX)
    clear hX hbk13 hlk13
    rename_i K0 a0
    refine a0 _ _ ?_
    refine from_now _ (by kernel_rfl) _ start gin gout nl s ni nt dart beds bc ba bf B2 kb S3 O7 K8 K10 K11 K12 k13 bo nx (D ++ dn.flatMap (outN gin gout beds s dart)) (NX ++ dn.flatMap (nxtN gin gout beds)) fi (dsn'.map markOf) w7 _ _ _ _ _ _ _ _ _ _ _ _ _ _ _ _ _ _ _ _ _ _ _ _ _ _ _ _ _ _ _ _ _ _ _ _ _ _ _ _ _ _ _ _ _ _ _ _ _ _ _ _ _ _ _ _ _ _ _ _ _ _ _ _ _ _ _ _ _ _ _ _ _ _ _ _ _ _ _ _ _ _ _ _ _ _ _ _ _ _ _ _ _ _ _ _ _ _ _ _ _ _ _ _ _ _ _ _ _ _ _ _ _ _
      (HKC7.out.blk H2.out id) (HKC7.out.blk HK.out id) (HR.out.keep HKC7.out) (HKC7.out.blk HS.out id) (HKC7.out.blk HO.out id) (HKC7.out.blk H8.out id) (HKC7.out.blk H10.out id) (HKC7.out.blk H11.out id) HB12'.out HB13.out HFI.out (HT5.out.ext HX7.out) HNE.out.1 HBD.out.1 HD.out HBD.out.2 HLEN.out ?_
    intro W Dm y55 y56 y57 y58 y59 hDm hKm htwo hchg
    have HT7 := HT5.out.ext HX7.out
    have hM7 := (HM5.out.chg (S := S0) (HX7.out.chg _) (fun _ _ h => h))
    have hit := (HIT5.out.ext HX7.out).chg hchg (by rintro (h | h); exact HNE.out.2.1 h; exact HNE.out.2.2.1 h) (by rintro (h | h); exact HNE.out.2.2.2.1 h; exact HNE.out.2.2.2.2 h)
    refine (show (∃ _, _) ∧ _ from ⟨⟨_, _, _, _, _, _, _, _, _, _, _, _, _, _, _, _, _, _, _, _, _, pre ++ post, dn ++ [⟨nl, ni, nt⟩], Dm :: dsn', ⟨?_, HALL.out, ?_, ?_, ?_, ?_⟩, rfl⟩, ?_⟩)
    · exact hit
    · rw [List.flatMap_append, List.flatMap_append, ← List.append_assoc, ← List.append_assoc]
      simpa using htwo
    · exact ((HI.out.chg.trans (HC5.out.mono fun k _ h => .inr (.inr h))).trans (HX7.out.chg _)).trans (hchg.mono fun k _ h => h.elim .inl fun h => .inr (.inl h))
    · exact HKC7.out.trans (HT7.kc hchg)
    · refine Marks.cons (hM7.chg hchg fun D' hD h => ?_) (fun hD => ?_) (Nat.le_trans HSZ5.out (Nat.le_trans HX7.out.size hDm)) hKm
      · have := HT7.ne (hM7.all D' hD).2
        exact h.elim this.1 this.2
      · have h1 := (Array.getElem?_eq_some_iff.1 (HM5.out.all Dm hD).2).1
        have h2 := HX7.out.size
        omega
    · show itLeft W R lv < itLeft wr R lv
      rw [hit.count, ← HIT5.out.count]
      exact HMEA.out
end Go.Proofs.Ytmopadnkjlodnaa
