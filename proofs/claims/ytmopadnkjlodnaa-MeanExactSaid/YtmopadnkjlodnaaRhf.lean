/-
  The reference of chapter 6: Exact.
-/
import Derived.Test.YtmopadnkjlodnaaRhe
import Derived.Test.YtmopadnkjlodnaaPxa
import Derived.Test.YtmopadnkjlodnaaMtd
namespace Go.Proofs.Ytmopadnkjlodnaa
open Go.RowKit Go.BigFrame
attribute [local go_sem] Oper.semAt_some Later.cell Later.frozen Lat.cell Lat.frozen NoX
theorem laws_eq (start gin gout : Int) (beds : List Int) : lawsB start gin gout beds = (cntB start gin gout && (bedsB beds && ins 1 82 [(beds.length : Int)])) := by
  have h : ins 0 2 [gin, gout] = (ins 0 2 [gin] && ins 0 2 [gout]) := by simp [ins, out1, Bool.and_assoc]
  unfold lawsB cntB
  rw [h]
  cases bedsB beds <;> cases ins 2 1001 [start] <;> cases ins 0 2 [gin] <;> cases ins 0 2 [gout] <;> rfl
/-- Two lists of things of one's own, the second one newer. -/
theorem Frm.both {lo : Nat} {rs rs' : List Res} {w w' : World} (h : Frm lo rs w) (hx : Ext w w') (hlo : lo ≤ w.heap.size) (h' : Frm w.heap.size rs' w') : Frm lo (rs ++ rs') w' := by
  have key : ∀ (i : Nat) (r : Res), (rs ++ rs')[i]? = some r → rs[i]? = some r ∨ (rs.length ≤ i ∧ rs'[i - rs.length]? = some r) := by
    intro i r hr
    by_cases hi : i < rs.length
    · rw [List.getElem?_append_left hi] at hr; exact .inl hr
    · rw [List.getElem?_append_right (by omega)] at hr; exact .inr ⟨by omega, hr⟩
  refine ⟨fun i r hr => ?_, fun i j r s hi hj hij k hk hk' => ?_⟩
  · rcases key i r hr with h1 | ⟨_, h1⟩
    · exact (h.ext hx).each i r h1
    · have h2 := h'.each _ r h1
      exact ⟨h2.1, fun k hk => by have := h2.2 k hk; omega⟩
  · rcases key i r hi with h1 | ⟨h0, h1⟩
    · rcases key j s hj with h2 | ⟨_, h2⟩
      · exact h.parts i j r s h1 h2 hij k hk hk'
      · have := h.lt i h1 k hk
        have := h'.lt _ h2 k hk'
        omega
    · rcases key j s hj with h2 | ⟨h3, h2⟩
      · have := h.lt j h2 k hk'
        have := h'.lt _ h1 k hk
        omega
      · exact h'.parts _ _ r s h1 h2 (by omega) k hk hk'
theorem Frm.left {lo : Nat} {rs rs' : List Res} {w : World} (h : Frm lo (rs ++ rs') w) : Frm lo rs w := by
  have key : ∀ (i : Nat) (r : Res), rs[i]? = some r → (rs ++ rs')[i]? = some r := fun i r hr => by
    rw [List.getElem?_append_left (List.getElem?_eq_some_iff.1 hr).1]; exact hr
  exact ⟨fun i r hr => h.each i r (key i r hr), fun i j r s hi hj => h.parts i j r s (key i r hi) (key j s hj)⟩
theorem Frm.more {lo : Nat} {rs : List Res} {w : World} (h : Frm lo rs w) {r : Res} (hr : r.A w) (hf : ∀ k, ¬ r.fp k) : Frm lo (rs ++ [r]) w := by
  have key : ∀ (i : Nat) (s : Res), (rs ++ [r])[i]? = some s → rs[i]? = some s ∨ s = r := by
    intro i s hs
    by_cases hi : i < rs.length
    · rw [List.getElem?_append_left hi] at hs; exact .inl hs
    · have := List.mem_of_getElem? hs
      rw [List.getElem?_append_right (by omega)] at hs
      exact .inr (List.mem_singleton.1 (List.mem_of_getElem? hs))
  refine ⟨fun i s hs => ?_, fun i j s t hi hj hij k hk hk' => ?_⟩
  · rcases key i s hs with h1 | rfl
    · exact h.each i s h1
    · exact ⟨hr, fun k hk => (hf k hk).elim⟩
  · rcases key i s hi with h1 | rfl
    · rcases key j t hj with h2 | rfl
      · exact h.parts i j s t h1 h2 hij k hk hk'
      · exact hf k hk'
    · exact hf k hk
def ptrOf : Value → Nat
  | .pointer (some ⟨k, _, _⟩) => k
  | _ => 0
theorem Frm.madeB {lo : Nat} {rs : List Res} {w : World} (h : Frm lo rs w) (e : TypeId) (cs : Array Value) (hlo : lo ≤ w.heap.size) : Frm lo (rs ++ [Res.blk w.heap.size cs]) (w.alloc (.cells cs e)) := by
  refine h.both ((Ext.refl w).alloc _) hlo (rs' := [_]) ⟨fun i r hr => ?_, fun i j r s hi hj hij => ?_⟩
  · have hi := (List.getElem?_eq_some_iff.1 hr).1
    obtain rfl : i = 0 := by simpa using hi
    cases hr
    refine ⟨Blk.new _ _ _, fun k hk => ?_⟩
    rw [show k = w.heap.size from hk]
    simp
  · have h1 := (List.getElem?_eq_some_iff.1 hi).1
    have h2 := (List.getElem?_eq_some_iff.1 hj).1
    simp at h1 h2
    omega
def oneS (off : List Int) (k : Nat) : List Int := (off.take k).map fun x => x % 2
def twoS (off : List Int) (k : Nat) : List Int := (off.take k).map fun x => 1 - x % 2
theorem oneS_len {off : List Int} {k : Nat} (h : k ≤ off.length) : (oneS off k).length = k ∧ (twoS off k).length = k := by
  unfold oneS twoS
  simp
  omega
theorem oneS_succ {off : List Int} {k : Nat} (h : k < off.length) : oneS off (k + 1) = oneS off k ++ [off[k] % 2] ∧ twoS off (k + 1) = twoS off k ++ [1 - off[k] % 2] := by
  unfold oneS twoS
  rw [List.take_succ_eq_append_getElem h, List.map_append, List.map_append]
  exact ⟨rfl, rfl⟩
theorem oneS_all (off : List Int) (k : Nat) : (∀ p ∈ oneS off k, p = 0 ∨ p = 1) ∧ twoS off k = (oneS off k).map fun p => 1 - p := by
  unfold oneS twoS
  refine ⟨fun p hp => ?_, by rw [List.map_map]; rfl⟩
  obtain ⟨x, _, rfl⟩ := List.mem_map.1 hp
  omega
theorem own_blk {b n c i : Nat} (e : (Value.slice (some ⟨b, 0, none⟩) n c).ownBlock = some i) : b = i := Option.some.inj e
def rxL (start gin gout : Int) (beds : List Int) (la : Option Addr) (lc : Nat) (kt kl ks lo : Nat) (e : Exa) (sv : Value) : List Res := [Res.own lo 99 1 (.slice la beds.length lc) beds.length (beds.map (Value.int .i64)), Res.blk kt #[.int .i64 e.t.legs, .int .i64 e.t.won, .int .i64 e.t.visits, .int .i64 e.t.points, .int .i64 e.t.darts.lo, .int .i64 e.t.darts.hi, .int .i64 e.t.tried.lo, .int .i64 e.t.tried.hi, .int .i64 e.t.tons, .int .i64 e.t.highs, .int .i64 e.t.tops, .int .i64 e.t.best], Res.blk kl #[.int .i64 start, .int .i64 gin, .int .i64 gout, .slice la beds.length lc, sv, .bool e.won], Res.blk ks #[.int .i64 e.left, .bool e.inn, .bool e.won, .bool false], Res.own lo 3 1 sv e.scores.length (e.scores.map (Value.int .i64)), Res.none]
/-- Between two visits. -/
structure RxI (start gin gout : Int) (beds : List Int) (la : Option Addr) (lc : Nat) (kt kl ks lo : Nat) (vs : List (List Int)) (R : Exa ⊕ (Int × Int)) (B : Nat) (w : World) (k : Nat) (e : Exa) (sv : Value) (W : World) : Prop where
  le : k ≤ vs.length
  res : R = rxG gin gout beds (vs.drop k) k e
  ok : ExOk start gout e
  len : e.scores.length = k
  frm : Frm lo (rxL start gin gout beds la lc kt kl ks lo e sv) W
  size : lo ≤ W.heap.size
  kc : Blk W B #[.int .i64 start, .int .i64 gin, .int .i64 gout]
  zed : ZedG (B + 1) (B + 1 + 1) W
  ext : Ext w W
/-- The darts of a visit so far. -/
structure RvI (start gin gout : Int) (beds : List Int) (la : Option Addr) (lc : Nat) (kt kl ks lo : Nat) (B : Nat) (w : World) (e : Exa) (sv : Value) (vb : List Int) (kn j : Nat) (r : Rv) (W : World) : Prop where
  le : j ≤ vb.length
  res : rvF gin gout beds (vb.take j) 0 ⟨e.left, e.inn, 0, 0⟩ = .inl r
  lo_ : 0 ≤ r.left ∧ r.left ≤ e.left
  tr : 0 ≤ r.tried ∧ r.tried ≤ j
  frm : Frm lo (rxL start gin gout beds la lc kt kl ks lo e sv ++ [Res.blk kn #[.int .i64 r.left, .bool r.inn, .bool (r.eff == 1), .bool (r.eff == 2)]]) W
  size : lo ≤ W.heap.size
  kc : Blk W B #[.int .i64 start, .int .i64 gin, .int .i64 gout]
  zed : ZedG (B + 1) (B + 1 + 1) W
  ext : Ext w W
theorem rv_bad {gin gout : Int} {beds vb : List Int} {e : Exa} {r : Rv} {j : Nat} (hj : j < vb.length) (hr : rvF gin gout beds (vb.take j) 0 ⟨e.left, e.inn, 0, 0⟩ = .inl r) (hx : rvX beds r j vb[j] ≠ 0) : rvE gin gout beds e vb = .inr (rvX beds r j vb[j]) := by
  have h1 := rvF_append (gin := gin) (gout := gout) (beds := beds) (vb.take j) (vb.drop j) 0 _ r hr
  rw [List.take_append_drop, List.length_take, Nat.min_eq_left (by omega), Nat.zero_add, List.drop_eq_getElem_cons hj, rvF, if_neg hx] at h1
  unfold rvE
  rw [h1]
theorem rx_bad {gin gout : Int} {beds : List Int} {vs : List (List Int)} {e : Exa} {k : Nat} {x : Int} (hk : k < vs.length) (hw : e.won = false) (h : rvE gin gout beds e vs[k] = .inr x) (hx : x ≠ 0) : rxG gin gout beds (vs.drop k) k e = .inr ((k : Int), x) := by
  have h1 : rxE gin gout beds e vs[k] = x := by unfold rxE; rw [if_neg (by rw [hw]; decide), h]
  rw [List.drop_eq_getElem_cons hk, rxG, h1, if_neg hx]
theorem rx_won {gin gout : Int} {beds : List Int} {vs : List (List Int)} {e : Exa} {k : Nat} (hk : k < vs.length) (hw : e.won = true) : rxG gin gout beds (vs.drop k) k e = .inr ((k : Int), 33) := by
  have h1 : rxE gin gout beds e vs[k] = 33 := by unfold rxE; rw [if_pos hw]
  rw [List.drop_eq_getElem_cons hk, rxG, h1, if_neg (by decide)]
theorem rx_good {gin gout : Int} {beds : List Int} {vs : List (List Int)} {e : Exa} {k : Nat} {r : Rv} (hk : k < vs.length) (hw : e.won = false) (h : rvE gin gout beds e vs[k] = .inl r) : rxG gin gout beds (vs.drop k) k e = rxG gin gout beds (vs.drop (k + 1)) (k + 1) (rxU e vs[k].length r) := by
  have h1 : rxE gin gout beds e vs[k] = 0 := by unfold rxE; rw [if_neg (by rw [hw]; decide), h]
  have h2 : rxS gin gout beds e vs[k] = rxU e vs[k].length r := by unfold rxS; rw [h]
  rw [List.drop_eq_getElem_cons hk, rxG, h1, if_pos rfl, h2]
theorem rv_next {gin gout : Int} {beds vb : List Int} {s r : Rv} {j : Nat} (hj : j < vb.length) (hr : rvF gin gout beds (vb.take j) 0 s = .inl r) (hx : rvX beds r j vb[j] = 0) : rvF gin gout beds (vb.take (j + 1)) 0 s = .inl (rvN gin gout beds r vb[j]) := by
  rw [List.take_succ_eq_append_getElem hj, rvF_append _ _ _ _ _ hr, List.length_take, Nat.min_eq_left (by omega), Nat.zero_add, rvF, if_pos hx]
  rfl
def thB (beds : List Int) (b : Int) (n : Nat) : Bool := b == 0 || (beds.take n).any (· == b)
theorem thB_all {beds : List Int} {b : Int} {n : Nat} (hn : beds.length ≤ n) : thB beds b n = !(b != 0 && !beds.any (b == ·)) := by
  unfold thB
  rw [List.take_of_length_le hn]
  have : beds.any (· == b) = beds.any (b == ·) := by
    congr 1
    funext x
    rw [Bool.eq_iff_iff, beq_iff_eq, beq_iff_eq]
    exact ⟨Eq.symm, Eq.symm⟩
  rw [this]
  cases h : b == 0 <;> simp [bne, h]
theorem thB_succ {beds : List Int} {b : Int} {n : Nat} (hn : n < beds.length) : thB beds b (n + 1) = (thB beds b n || beds[n] == b) := by
  unfold thB
  rw [List.take_succ_eq_append_getElem hn, List.any_append]
  simp [Bool.or_assoc]
def codeAft (n : Nat) : Code → Option Code
  | .block _ c => codeAft n c
  | .seq (.region m _ _) b => if m = n then some b else codeAft n b
  | .seq a b => match codeAft n a with
    | some c => some c
    | none => codeAft n b
  | .cond _ a b => match codeAft n a with
    | some c => some c
    | none => codeAft n b
  | .loop c => codeAft n c
  | _ => none
set_option maxRecDepth 100000 in
set_option maxHeartbeats 16000000 in
theorem rx_loop (c : Code) (hc : codeAft 5 (Try.f31.body.getD .skip) = some c) (start gin gout : Int) (beds : List Int) (ba : Option Addr) (bc : Nat) (vs : List (List Int)) (va : Option Addr) (vc : Nat) (R : Exa ⊕ (Int × Int)) (la : Option Addr) (lc k9 k10 k11 lo B : Nat) (w w5 : World)
    (HR : Hid (CellsAt w .i64 ba beds)) (HV : Hid (VssAt w va vs)) (HCN : Hid ((2 ≤ start ∧ start ≤ 1001) ∧ (0 ≤ gin ∧ gin ≤ 2) ∧ 0 ≤ gout ∧ gout ≤ 2)) (HBD : Hid (bedsB beds = true ∧ beds.length ≤ 82)) (HE : Hid (R = rxG gin gout beds vs 0 (exa0 start))) (hvn : vs.length ≤ 100) (HBB : Hid (B = w.heap.size))
    (HF5 : Hid (Frm lo (rxL start gin gout beds la lc k9 k10 k11 lo (exa0 start) (.slice none 0 0)) w5)) (HX5w : Hid (Ext w w5)) (HZ5 : Hid (ZedG (B + 1) (B + 1 + 1) w5)) (H35 : Hid (Blk w5 B #[.int .i64 start, .int .i64 gin, .int .i64 gout])) (HB3 : Hid (w.heap.size = B ∧ B + 1 + 1 < lo)) (HLO5 : Hid (lo ≤ w5.heap.size)) {s4 s5 s8 s9 s13 s14 s15 s16 s17 s18 s19 s20 s21 s22 s23 s24 s25 s26 s27 s28 s29 s30 s31 s32 s33 s34 s35 s36 s37 s38 s39 s40 s41 s42 s43 s44 s45 s46 s47 s48 s49 s50 s51 s52 s53 s54 s55 s56 s57 s58 s59 s60 s61 s62 s63 s64 s65 s66 s67 s68 s69 s70 s71 s72 s73 s74 s75 s76 s77 s78 s79 s80 s81 s82 s83 s84 s85 s86 s87 s88 s89 s90 s91 s92 s93 s94 s95 s96 s97 s98 s99 s100 s101 s102 s103 s104 s105 s106 s107 s108 s109 s110 s111 s112 s113 s114 s115 s116 s117 s118 s119 s120 s121 s122 s123 s124 s125 s126 s127 s128 s129 s130 s131 s132 s133 s134 s135 s136 s137 s138 s139 s140 s141 s142 s143 s144 s145 s146 s147 s148 s149 s150 s151 s152 s153 s154 s155 s156 s157 s158 s159 s160 s161 s162 s163 s164 s165 s166 s167 s168 s169 s170 s171 s172 s173 s174 s175 s176 s177 s178 s179 s180 s181 s182 s183 s184 : Value} :
    c.wp Try.prog (bodyPost Try.prog Try.f31 fun e w' => ExaA start gin gout beds R w.heap.size e w' ∧ Ext w w') { tmps := #[.agg #[.int .i64 start, .int .i64 gin, .int .i64 gout], .slice ba beds.length bc, .slice va vs.length vc, .pointer (some ⟨B, 0, none⟩), s4, s5, .pointer (some ⟨B + 1, 0, none⟩), .pointer (some ⟨B + 1 + 1, 0, none⟩), s8, s9, .pointer (some ⟨k9, 0, none⟩), .pointer (some ⟨k10, 0, none⟩), .pointer (some ⟨k11, 0, none⟩), s13, s14, s15, s16, s17, s18, s19, s20, s21, s22, s23, s24, s25, s26, s27, s28, s29, s30, s31, s32, s33, s34, s35, s36, s37, s38, s39, s40, s41, s42, s43, s44, s45, s46, s47, s48, s49, s50, s51, s52, s53, s54, s55, s56, s57, s58, s59, s60, s61, s62, s63, s64, s65, s66, s67, s68, s69, s70, s71, s72, s73, s74, s75, s76, s77, s78, s79, s80, s81, s82, s83, s84, s85, s86, s87, s88, s89, s90, s91, s92, s93, s94, s95, s96, s97, s98, s99, s100, s101, s102, s103, s104, s105, s106, s107, s108, s109, s110, s111, s112, s113, s114, s115, s116, s117, s118, s119, s120, s121, s122, s123, s124, s125, s126, s127, s128, s129, s130, s131, s132, s133, s134, s135, s136, s137, s138, s139, s140, s141, s142, s143, s144, s145, s146, s147, s148, s149, s150, s151, s152, s153, s154, s155, s156, s157, s158, s159, s160, s161, s162, s163, s164, s165, s166, s167, s168, s169, s170, s171, s172, s173, s174, s175, s176, s177, s178, s179, s180, s181, s182, s183, s184], defers := [] } w5 := by
  let Q2 : Exit → Act → World → Prop := bodyPost Try.prog Try.f31 fun _ _ => True
  simp only [Try.f31, Option.getD_some, codeAft, ↓reduceIte, Nat.reduceEqDiff, Option.some.injEq] at hc
  subst hc
  dsimp only
  go_wp2
  go_loopw [13] (fun i wr => ∃ (k : Nat) (e : Exa) (sv : Value), i = .int .i64 k ∧ RxI start gin gout beds la lc k9 k10 k11 lo vs R B w k e sv wr) (fun i _ => vs.length - (intOf i).toNat)
  case atStart =>
    exact ⟨0, exa0 start, .slice none 0 0, rfl, ⟨Nat.zero_le _, by rw [HE.out, List.drop_zero], .inr ⟨by have := HCN.out; unfold leastS exa0; dsimp only; split <;> omega, Int.le_refl _, fun _ => rfl⟩, rfl, HF5.out, HLO5.out, H35.out, HZ5.out, HX5w.out⟩⟩
  case round =>
    obtain ⟨k, e, sv, rfl, hI⟩ := hrel
    obtain ⟨xa, xc, rfl⟩ := own_shape (hI.frm.get 4 rfl)
    have HI := Lib.hid hI
    clear hI
    obtain ⟨w0, rfl⟩ : ∃ x, x = wr := ⟨_, rfl⟩
    by_cases hlt : k < vs.length
    · obtain ⟨bb, bo, wa, wc', rfl, hcell, hcl, hwc, hwi, hwl⟩ := HV.out k hlt
      have HSTEP := Lib.hid (And.intro (fun x => rx_bad (gin := gin) (gout := gout) (beds := beds) (e := e) (x := x) hlt) (And.intro (rx_won (gin := gin) (gout := gout) (beds := beds) (e := e) hlt) (fun r => rx_good (gin := gin) (gout := gout) (beds := beds) (e := e) (r := r) hlt)))
      obtain ⟨vb, hvb⟩ : ∃ y, vs[k] = y := ⟨_, rfl⟩
      rw [hvb] at hcell hcl hwc hwi hwl HSTEP
      have HCELL := Lib.hid hcell
      have HCL := Lib.hid hcl
      have HWI := Lib.hid hwi
      have HWL := Lib.hid hwl
      clear hcell hcl hwc hwi hwl hvb
      have c0 := HI.out.ext.cell HCELL.out
      have c1 := lt_of_cell c0
      simp only at c1
      have hbl : Blk w0 k10 #[.int .i64 start, .int .i64 gin, .int .i64 gout, .slice la beds.length lc, (.slice xa e.scores.length xc), .bool e.won] := HI.out.frm.get 2 rfl
      have m5 := hbl.cell 5 (v := .bool e.won) rfl
      have ml := hbl.lt
      clear hbl
      cases hw : e.won
      case true =>
        rw [hw] at m5
        have HE9 : Hid (R = .inr ((k : Int), 33)) := Lib.hid (by rw [HI.out.res, HSTEP.out.2.1 hw])
        have HZI := Lib.hid HI.out.zed
        have z0 := HZI.out.k6.cell 0 (v := .int .i64 0) rfl
        have zf0 := HZI.out.k6.frozen 0
        have z1 := HZI.out.k6.cell 1 (v := .int .i64 0) rfl
        have zf1 := HZI.out.k6.frozen 1
        have z2 := HZI.out.k6.cell 2 (v := .int .i64 0) rfl
        have zf2 := HZI.out.k6.frozen 2
        have z3 := HZI.out.k6.cell 3 (v := .int .i64 0) rfl
        have zf3 := HZI.out.k6.frozen 3
        have z4 := HZI.out.k6.cell 4 (v := .int .i64 0) rfl
        have zf4 := HZI.out.k6.frozen 4
        have z5 := HZI.out.k6.cell 5 (v := .int .i64 0) rfl
        have zf5 := HZI.out.k6.frozen 5
        have z6 := HZI.out.k6.cell 6 (v := .int .i64 0) rfl
        have zf6 := HZI.out.k6.frozen 6
        have z7 := HZI.out.k6.cell 7 (v := .int .i64 0) rfl
        have zf7 := HZI.out.k6.frozen 7
        have z8 := HZI.out.k6.cell 8 (v := .int .i64 0) rfl
        have zf8 := HZI.out.k6.frozen 8
        have z9 := HZI.out.k6.cell 9 (v := .int .i64 0) rfl
        have zf9 := HZI.out.k6.frozen 9
        have z10 := HZI.out.k6.cell 10 (v := .int .i64 0) rfl
        have zf10 := HZI.out.k6.frozen 10
        have z11 := HZI.out.k6.cell 11 (v := .int .i64 0) rfl
        have zf11 := HZI.out.k6.frozen 11
        have zl := HZI.out.k6.lt
        have y0 := HZI.out.k7.cell 0 (v := .int .i64 0) rfl
        have yf0 := HZI.out.k7.frozen 0
        have y1 := HZI.out.k7.cell 1 (v := .int .i64 0) rfl
        have yf1 := HZI.out.k7.frozen 1
        have y2 := HZI.out.k7.cell 2 (v := .int .i64 0) rfl
        have yf2 := HZI.out.k7.frozen 2
        have y3 := HZI.out.k7.cell 3 (v := .slice none 0 0) rfl
        have yf3 := HZI.out.k7.frozen 3
        have y4 := HZI.out.k7.cell 4 (v := .slice none 0 0) rfl
        have yf4 := HZI.out.k7.frozen 4
        have y5 := HZI.out.k7.cell 5 (v := .bool false) rfl
        have yf5 := HZI.out.k7.frozen 5
        have yl := HZI.out.k7.lt
        go_wp2_with fail
        have HZ9 := Lib.hid HZI.out.set6.set7
        have HX9 := Lib.hid (Chg.to_ext HI.out.ext ((twl_chg (fun k => k = (B + 1) ∨ k = (B + 1 + 1)) w0 (b := (B + 1)) (.inl rfl) (.int .i64 0) (.int .i64 0) (.int .i64 0) (.int .i64 0) (.int .i64 0) (.int .i64 0) (.int .i64 0) (.int .i64 0) (.int .i64 0) (.int .i64 0) (.int .i64 0) (.int .i64 0)).trans (six_chg (fun k => k = (B + 1) ∨ k = (B + 1 + 1)) _ (b := (B + 1 + 1)) (.inr rfl) (.int .i64 0) (.int .i64 0) (.int .i64 0) (.slice none 0 0) (.slice none 0 0) (.bool false))) (by intro i hi; have h := HBB.out; rcases hi with hi | hi <;> omega))
        generalize hW9 : World.setCell _ _ _ = W9
        rw [hW9] at HZ9 HX9
        clear hW9 z0 zf0 z1 zf1 z2 zf2 z3 zf3 z4 zf4 z5 zf5 z6 zf6 z7 zf7 z8 zf8 z9 zf9 z10 zf10 z11 zf11 zl y0 yf0 y1 yf1 y2 yf2 y3 yf3 y4 yf4 y5 yf5 yl
        have q0 := HZ9.out.k6.cell 0 (v := .int .i64 0) rfl
        have q1 := HZ9.out.k6.cell 1 (v := .int .i64 0) rfl
        have q2 := HZ9.out.k6.cell 2 (v := .int .i64 0) rfl
        have q3 := HZ9.out.k6.cell 3 (v := .int .i64 0) rfl
        have q4 := HZ9.out.k6.cell 4 (v := .int .i64 0) rfl
        have q5 := HZ9.out.k6.cell 5 (v := .int .i64 0) rfl
        have q6 := HZ9.out.k6.cell 6 (v := .int .i64 0) rfl
        have q7 := HZ9.out.k6.cell 7 (v := .int .i64 0) rfl
        have q8 := HZ9.out.k6.cell 8 (v := .int .i64 0) rfl
        have q9 := HZ9.out.k6.cell 9 (v := .int .i64 0) rfl
        have q10 := HZ9.out.k6.cell 10 (v := .int .i64 0) rfl
        have q11 := HZ9.out.k6.cell 11 (v := .int .i64 0) rfl
        have p0 := HZ9.out.k7.cell 0 (v := .int .i64 0) rfl
        have p1 := HZ9.out.k7.cell 1 (v := .int .i64 0) rfl
        have p2 := HZ9.out.k7.cell 2 (v := .int .i64 0) rfl
        have p3 := HZ9.out.k7.cell 3 (v := .slice none 0 0) rfl
        have p4 := HZ9.out.k7.cell 4 (v := .slice none 0 0) rfl
        have p5 := HZ9.out.k7.cell 5 (v := .bool false) rfl
        refine bodyPost_ret (v := .tuple #[.agg #[.int .i64 0, .int .i64 0, .int .i64 0, .int .i64 0, .int .i64 0, .int .i64 0, .int .i64 0, .int .i64 0, .int .i64 0, .int .i64 0, .int .i64 0, .int .i64 0], .agg #[.int .i64 0, .int .i64 0, .int .i64 0, .slice none 0 0, .slice none 0 0, .bool false], .int .i64 k, .int .i64 33]) (by simp [results, Try.results31, go_sem, q0, q1, q2, q3, q4, q5, q6, q7, q8, q9, q10, q11, p0, p1, p2, p3, p4, p5]) rfl ⟨by rw [HE9.out]; rfl, HX9.out⟩
      case false =>
      rw [hw] at m5
      have HWN := Lib.hid hw
      have HST : Hid (StOk start gout e.left e.inn) := Lib.hid (by rcases HI.out.ok with h | h; rw [hw] at h; cases h; exact h)
      have hbs : Blk w0 k11 #[.int .i64 e.left, .bool e.inn, .bool false, .bool false] := by have h : Blk w0 k11 #[.int .i64 e.left, .bool e.inn, .bool e.won, .bool false] := HI.out.frm.get 3 rfl; rw [hw] at h; exact h
      have HBS := Lib.hid hbs
      clear hbs hw
      have s0 := HBS.out.cell 0 (v := .int .i64 e.left) rfl
      have s1 := HBS.out.cell 1 (v := .bool e.inn) rfl
      have s2 := HBS.out.cell 2 (v := .bool false) rfl
      have s3 := HBS.out.cell 3 (v := .bool false) rfl
      have sl := HBS.out.lt
      have HF14 := Lib.hid (Frm.madeB HI.out.frm 110 #[.int .i64 e.left, .bool e.inn, .bool false, .bool false] HI.out.size)
      go_upto_region 12 with fail
      generalize hw7 : World.alloc _ _ = w7
      rw [hw7] at HF14
      obtain ⟨kn, hkn⟩ : ∃ y, y = w0.heap.size := ⟨_, rfl⟩
      have HX14 : Hid (Ext w0 w7) := Lib.hid (by rw [← hw7]; exact (Ext.refl w0).alloc _)
      rw [← hkn] at HF14 ⊢
      have HKN : Hid (B + 1 + 1 < kn ∧ lo ≤ kn) := Lib.hid (by have h1 := HI.out.size; have h2 := HB3.out; omega)
      have HV7 : Hid (RvI start gin gout beds la lc k9 k10 k11 lo B w e (.slice xa e.scores.length xc) vb kn 0 ⟨e.left, e.inn, 0, 0⟩ w7) := Lib.hid ⟨Nat.zero_le _, rfl, ⟨by have := HST.out.1; unfold leastS at this; dsimp only; split at this <;> omega, Int.le_refl _⟩, ⟨Int.le_refl _, Int.le_refl _⟩, HF14.out, Nat.le_trans HI.out.size HX14.out.size, HI.out.kc.ext HX14.out, HI.out.zed.ext HX14.out, HI.out.ext.trans HX14.out⟩
      clear hw7 hkn HF14 c0 c1 m5 ml s0 s1 s2 s3 sl HBS
      go_wp2
      rename_i K0 b0
      go_loopw [15, 16] (fun tr i wr => ∃ (j : Nat) (r : Rv), tr = .int .i64 r.tried ∧ i = .int .i64 j ∧ RvI start gin gout beds la lc k9 k10 k11 lo B w e (.slice xa e.scores.length xc) vb kn j r wr) (fun _ i _ => vb.length - (intOf i).toNat)
      case atStart => exact ⟨0, ⟨e.left, e.inn, 0, 0⟩, rfl, rfl, HV7.out⟩
      case round =>
        obtain ⟨j, ⟨left, inn, eff, tried⟩, rfl, rfl, hJ⟩ := hrel
        have HJ := Lib.hid hJ
        have heff := (rvF_spec HBD.out.1 (vb.take j) 0 _ _ (.inl rfl) (by omega) hJ.res).2.1
        have HEFF := Lib.hid heff
        clear hJ heff
        obtain ⟨w2, rfl⟩ : ∃ x, x = wr := ⟨_, rfl⟩
        have c0 := HJ.out.ext.cell HCELL.out
        have c1 := lt_of_cell c0
        simp only at c1
        by_cases hjt : j < vb.length
        · have HBAD := Lib.hid (rv_bad hjt HJ.out.res)
          have HNEXT := Lib.hid (rv_next hjt HJ.out.res)
          have HIB := Lib.hid (HWI.out vb[j] (List.getElem_mem hjt))
          obtain ⟨b3, o3, rfl, d0⟩ := HCL.out j hjt
          have HDL : Hid (b3 < w.heap.size) := Lib.hid (lt_of_cell d0)
          generalize vb[j] = b at *
          have HD0 := Lib.hid (HJ.out.ext.cell d0)
          clear d0
          have hbn : Blk w2 kn #[.int .i64 left, .bool inn, .bool (eff == 1), .bool (eff == 2)] := HJ.out.frm.get 6 rfl
          have HBN' := Lib.hid hbn
          have HZJ := Lib.hid HJ.out.zed
          have hjn : ((j : Nat) : Int) ≤ 1000 := by have := HWL.out; omega
          clear hbn
          have HERR : Hid (∀ x, x ≠ 0 → rvX beds ⟨left, inn, eff, tried⟩ j b = x → R = .inr ((k : Int), x)) := Lib.hid (fun x h0 hx => by rw [HI.out.res]; exact HSTEP.out.1 x HWN.out (by rw [← hx]; exact HBAD.out (by rw [hx]; exact h0)) h0)
          by_cases h3 : j = 3
          case pos =>
            subst h3
            have HE9 := Lib.hid (HERR.out 32 (by decide) (by unfold rvX; rw [if_pos (.inl rfl)]))
            have e3 : ((3 : Nat) : Int) = 3 := rfl
            rw [e3]
            have hl3 : (3 : Int) < (vb.length : Int) := by omega
            clear e3
            have z0 := HZJ.out.k6.cell 0 (v := .int .i64 0) rfl
            have zf0 := HZJ.out.k6.frozen 0
            have z1 := HZJ.out.k6.cell 1 (v := .int .i64 0) rfl
            have zf1 := HZJ.out.k6.frozen 1
            have z2 := HZJ.out.k6.cell 2 (v := .int .i64 0) rfl
            have zf2 := HZJ.out.k6.frozen 2
            have z3 := HZJ.out.k6.cell 3 (v := .int .i64 0) rfl
            have zf3 := HZJ.out.k6.frozen 3
            have z4 := HZJ.out.k6.cell 4 (v := .int .i64 0) rfl
            have zf4 := HZJ.out.k6.frozen 4
            have z5 := HZJ.out.k6.cell 5 (v := .int .i64 0) rfl
            have zf5 := HZJ.out.k6.frozen 5
            have z6 := HZJ.out.k6.cell 6 (v := .int .i64 0) rfl
            have zf6 := HZJ.out.k6.frozen 6
            have z7 := HZJ.out.k6.cell 7 (v := .int .i64 0) rfl
            have zf7 := HZJ.out.k6.frozen 7
            have z8 := HZJ.out.k6.cell 8 (v := .int .i64 0) rfl
            have zf8 := HZJ.out.k6.frozen 8
            have z9 := HZJ.out.k6.cell 9 (v := .int .i64 0) rfl
            have zf9 := HZJ.out.k6.frozen 9
            have z10 := HZJ.out.k6.cell 10 (v := .int .i64 0) rfl
            have zf10 := HZJ.out.k6.frozen 10
            have z11 := HZJ.out.k6.cell 11 (v := .int .i64 0) rfl
            have zf11 := HZJ.out.k6.frozen 11
            have zl := HZJ.out.k6.lt
            have y0 := HZJ.out.k7.cell 0 (v := .int .i64 0) rfl
            have yf0 := HZJ.out.k7.frozen 0
            have y1 := HZJ.out.k7.cell 1 (v := .int .i64 0) rfl
            have yf1 := HZJ.out.k7.frozen 1
            have y2 := HZJ.out.k7.cell 2 (v := .int .i64 0) rfl
            have yf2 := HZJ.out.k7.frozen 2
            have y3 := HZJ.out.k7.cell 3 (v := .slice none 0 0) rfl
            have yf3 := HZJ.out.k7.frozen 3
            have y4 := HZJ.out.k7.cell 4 (v := .slice none 0 0) rfl
            have yf4 := HZJ.out.k7.frozen 4
            have y5 := HZJ.out.k7.cell 5 (v := .bool false) rfl
            have yf5 := HZJ.out.k7.frozen 5
            have yl := HZJ.out.k7.lt
            go_wp2
            have HZ9 := Lib.hid HZJ.out.set6.set7
            have HX9 := Lib.hid (Chg.to_ext HJ.out.ext ((twl_chg (fun k => k = (B + 1) ∨ k = (B + 1 + 1)) w2 (b := (B + 1)) (.inl rfl) (.int .i64 0) (.int .i64 0) (.int .i64 0) (.int .i64 0) (.int .i64 0) (.int .i64 0) (.int .i64 0) (.int .i64 0) (.int .i64 0) (.int .i64 0) (.int .i64 0) (.int .i64 0)).trans (six_chg (fun k => k = (B + 1) ∨ k = (B + 1 + 1)) _ (b := (B + 1 + 1)) (.inr rfl) (.int .i64 0) (.int .i64 0) (.int .i64 0) (.slice none 0 0) (.slice none 0 0) (.bool false))) (by intro i hi; have h := HBB.out; rcases hi with hi | hi <;> omega))
            generalize hW9 : World.setCell _ _ _ = W9
            rw [hW9] at HZ9 HX9
            clear hW9 z0 zf0 z1 zf1 z2 zf2 z3 zf3 z4 zf4 z5 zf5 z6 zf6 z7 zf7 z8 zf8 z9 zf9 z10 zf10 z11 zf11 zl y0 yf0 y1 yf1 y2 yf2 y3 yf3 y4 yf4 y5 yf5 yl
            have q0 := HZ9.out.k6.cell 0 (v := .int .i64 0) rfl
            have q1 := HZ9.out.k6.cell 1 (v := .int .i64 0) rfl
            have q2 := HZ9.out.k6.cell 2 (v := .int .i64 0) rfl
            have q3 := HZ9.out.k6.cell 3 (v := .int .i64 0) rfl
            have q4 := HZ9.out.k6.cell 4 (v := .int .i64 0) rfl
            have q5 := HZ9.out.k6.cell 5 (v := .int .i64 0) rfl
            have q6 := HZ9.out.k6.cell 6 (v := .int .i64 0) rfl
            have q7 := HZ9.out.k6.cell 7 (v := .int .i64 0) rfl
            have q8 := HZ9.out.k6.cell 8 (v := .int .i64 0) rfl
            have q9 := HZ9.out.k6.cell 9 (v := .int .i64 0) rfl
            have q10 := HZ9.out.k6.cell 10 (v := .int .i64 0) rfl
            have q11 := HZ9.out.k6.cell 11 (v := .int .i64 0) rfl
            have p0 := HZ9.out.k7.cell 0 (v := .int .i64 0) rfl
            have p1 := HZ9.out.k7.cell 1 (v := .int .i64 0) rfl
            have p2 := HZ9.out.k7.cell 2 (v := .int .i64 0) rfl
            have p3 := HZ9.out.k7.cell 3 (v := .slice none 0 0) rfl
            have p4 := HZ9.out.k7.cell 4 (v := .slice none 0 0) rfl
            have p5 := HZ9.out.k7.cell 5 (v := .bool false) rfl
            refine bodyPost_ret (v := .tuple #[.agg #[.int .i64 0, .int .i64 0, .int .i64 0, .int .i64 0, .int .i64 0, .int .i64 0, .int .i64 0, .int .i64 0, .int .i64 0, .int .i64 0, .int .i64 0, .int .i64 0], .agg #[.int .i64 0, .int .i64 0, .int .i64 0, .slice none 0 0, .slice none 0 0, .bool false], .int .i64 k, .int .i64 32]) (by simp [results, Try.results31, go_sem, q0, q1, q2, q3, q4, q5, q6, q7, q8, q9, q10, q11, p0, p1, p2, p3, p4, p5]) rfl ⟨by rw [HE9.out]; rfl, HX9.out⟩
          case neg =>
          have hj3 : ¬ ((j : Int) = 3) := by omega
          rcases HEFF.out with hE | hE | hE
          · subst hE
            have n2 := HBN'.out.cell 2 (v := .bool false) rfl
            have n3 := HBN'.out.cell 3 (v := .bool false) rfl
            have nl := HBN'.out.lt
            have dl := lt_of_cell HD0.out
            have hd0 := HD0.out
            simp only at dl
            go_wp2
            go_loopw [17, 18] (fun th i wr => ∃ n : Nat, n ≤ beds.length ∧ th = .bool (thB beds b n) ∧ i = .int .i64 n ∧ Ext w2 wr) (fun _ i _ => beds.length - (intOf i).toNat)
            case atStart => exact ⟨0, Nat.zero_le _, by simp [thB], rfl, Ext.refl w2⟩
            case round =>
              obtain ⟨n, hn, rfl, rfl, hxn⟩ := hrel
              have HXN := Lib.hid hxn
              have hbl := HBD.out.2
              clear hxn n2 n3 nl dl hd0
              obtain ⟨w5, rfl⟩ : ∃ x, x = wr := ⟨_, rfl⟩
              by_cases hnt : n < beds.length
              · obtain ⟨b4, o4, e4, z0'⟩ := HR.out.ext (HJ.out.ext.trans HXN.out) n hnt
                cases e4
                have HTS := Lib.hid (thB_succ (b := b) hnt)
                obtain ⟨y, hy⟩ : ∃ y, beds[n] = y := ⟨_, rfl⟩
                obtain ⟨th, hth⟩ : ∃ t, thB beds b n = t := ⟨_, rfl⟩
                rw [hy] at z0' HTS
                rw [hth] at HTS ⊢
                have HC5 := Lib.hid (HXN.out.cell (HJ.out.ext.cell HCELL.out))
                have HD5 := Lib.hid (HXN.out.cell HD0.out)
                have HZ5' := Lib.hid z0'
                clear hth hy z0' c0 c1
                have c0 : ∀ y : Later w5, y.world.cell? ⟨bb, bo + k, none⟩ = some (.slice (some ⟨b3, o3, none⟩) vb.length wc') := fun y => y.ext.cell HC5.out
                have d0 : ∀ y : Later w5, y.world.cell? ⟨b3, o3 + j, none⟩ = some (.int .i64 b) := fun y => y.ext.cell HD5.out
                have z0 : ∀ q : Later w5, q.world.cell? ⟨b4, o4 + n, none⟩ = some (.int .i64 y) := fun q => q.ext.cell HZ5'.out
                have cl := lt_of_cell HC5.out
                have dl := lt_of_cell HD5.out
                have zl := lt_of_cell HZ5'.out
                simp only at cl dl zl
                cases th
                all_goals
                  go_upto_region 21 with fail
                  refine wp_region_later (by kernel_rfl) (by kernel_rfl) ?_
                  repeat (go_big_quiet_step (fail))
                  refine wpQuiet_nil ?_
                  intro w6 hw6
                  obtain ⟨⟨w6, hx6⟩, rfl⟩ := hw6
                  have HX6 := Lib.hid (HXN.out.trans hx6)
                  clear hx6 c0 d0 z0 cl dl zl
                  go_wp2
                  go_roundw
                  case rel => exact ⟨n + 1, by omega, by rw [HTS.out]; simp, by go_num, HX6.out⟩
                  case measure => simp [intOf]; omega
              · obtain rfl : n = beds.length := by omega
                have HTA := Lib.hid (thB_all (beds := beds) (b := b) (n := beds.length) (Nat.le_refl _))
                obtain ⟨th, hth⟩ : ∃ t, thB beds b beds.length = t := ⟨_, rfl⟩
                rw [hth] at HTA ⊢
                have HZ5 := Lib.hid (HZJ.out.ext HXN.out)
                have HX5 := Lib.hid (HJ.out.ext.trans HXN.out)
                clear hth
                cases th
                case false =>
                  have HE9 := Lib.hid (HERR.out 7 (by decide) (by unfold rvX; rw [if_neg (fun h => by rcases h with h | h; exact h3 h; exact h rfl), if_pos (by have h := HTA.out; cases hq : (b != 0 && !beds.any (b == ·)); rw [hq] at h; cases h; rfl)]))
                  have z0 := HZ5.out.k6.cell 0 (v := .int .i64 0) rfl
                  have zf0 := HZ5.out.k6.frozen 0
                  have z1 := HZ5.out.k6.cell 1 (v := .int .i64 0) rfl
                  have zf1 := HZ5.out.k6.frozen 1
                  have z2 := HZ5.out.k6.cell 2 (v := .int .i64 0) rfl
                  have zf2 := HZ5.out.k6.frozen 2
                  have z3 := HZ5.out.k6.cell 3 (v := .int .i64 0) rfl
                  have zf3 := HZ5.out.k6.frozen 3
                  have z4 := HZ5.out.k6.cell 4 (v := .int .i64 0) rfl
                  have zf4 := HZ5.out.k6.frozen 4
                  have z5 := HZ5.out.k6.cell 5 (v := .int .i64 0) rfl
                  have zf5 := HZ5.out.k6.frozen 5
                  have z6 := HZ5.out.k6.cell 6 (v := .int .i64 0) rfl
                  have zf6 := HZ5.out.k6.frozen 6
                  have z7 := HZ5.out.k6.cell 7 (v := .int .i64 0) rfl
                  have zf7 := HZ5.out.k6.frozen 7
                  have z8 := HZ5.out.k6.cell 8 (v := .int .i64 0) rfl
                  have zf8 := HZ5.out.k6.frozen 8
                  have z9 := HZ5.out.k6.cell 9 (v := .int .i64 0) rfl
                  have zf9 := HZ5.out.k6.frozen 9
                  have z10 := HZ5.out.k6.cell 10 (v := .int .i64 0) rfl
                  have zf10 := HZ5.out.k6.frozen 10
                  have z11 := HZ5.out.k6.cell 11 (v := .int .i64 0) rfl
                  have zf11 := HZ5.out.k6.frozen 11
                  have zl := HZ5.out.k6.lt
                  have y0 := HZ5.out.k7.cell 0 (v := .int .i64 0) rfl
                  have yf0 := HZ5.out.k7.frozen 0
                  have y1 := HZ5.out.k7.cell 1 (v := .int .i64 0) rfl
                  have yf1 := HZ5.out.k7.frozen 1
                  have y2 := HZ5.out.k7.cell 2 (v := .int .i64 0) rfl
                  have yf2 := HZ5.out.k7.frozen 2
                  have y3 := HZ5.out.k7.cell 3 (v := .slice none 0 0) rfl
                  have yf3 := HZ5.out.k7.frozen 3
                  have y4 := HZ5.out.k7.cell 4 (v := .slice none 0 0) rfl
                  have yf4 := HZ5.out.k7.frozen 4
                  have y5 := HZ5.out.k7.cell 5 (v := .bool false) rfl
                  have yf5 := HZ5.out.k7.frozen 5
                  have yl := HZ5.out.k7.lt
                  go_wp2
                  have HZ9 := Lib.hid HZ5.out.set6.set7
                  have HX9 := Lib.hid (Chg.to_ext HX5.out ((twl_chg (fun k => k = (B + 1) ∨ k = (B + 1 + 1)) w5 (b := (B + 1)) (.inl rfl) (.int .i64 0) (.int .i64 0) (.int .i64 0) (.int .i64 0) (.int .i64 0) (.int .i64 0) (.int .i64 0) (.int .i64 0) (.int .i64 0) (.int .i64 0) (.int .i64 0) (.int .i64 0)).trans (six_chg (fun k => k = (B + 1) ∨ k = (B + 1 + 1)) _ (b := (B + 1 + 1)) (.inr rfl) (.int .i64 0) (.int .i64 0) (.int .i64 0) (.slice none 0 0) (.slice none 0 0) (.bool false))) (by intro i hi; have h := HBB.out; rcases hi with hi | hi <;> omega))
                  generalize hW9 : World.setCell _ _ _ = W9
                  rw [hW9] at HZ9 HX9
                  clear hW9 z0 zf0 z1 zf1 z2 zf2 z3 zf3 z4 zf4 z5 zf5 z6 zf6 z7 zf7 z8 zf8 z9 zf9 z10 zf10 z11 zf11 zl y0 yf0 y1 yf1 y2 yf2 y3 yf3 y4 yf4 y5 yf5 yl
                  have q0 := HZ9.out.k6.cell 0 (v := .int .i64 0) rfl
                  have q1 := HZ9.out.k6.cell 1 (v := .int .i64 0) rfl
                  have q2 := HZ9.out.k6.cell 2 (v := .int .i64 0) rfl
                  have q3 := HZ9.out.k6.cell 3 (v := .int .i64 0) rfl
                  have q4 := HZ9.out.k6.cell 4 (v := .int .i64 0) rfl
                  have q5 := HZ9.out.k6.cell 5 (v := .int .i64 0) rfl
                  have q6 := HZ9.out.k6.cell 6 (v := .int .i64 0) rfl
                  have q7 := HZ9.out.k6.cell 7 (v := .int .i64 0) rfl
                  have q8 := HZ9.out.k6.cell 8 (v := .int .i64 0) rfl
                  have q9 := HZ9.out.k6.cell 9 (v := .int .i64 0) rfl
                  have q10 := HZ9.out.k6.cell 10 (v := .int .i64 0) rfl
                  have q11 := HZ9.out.k6.cell 11 (v := .int .i64 0) rfl
                  have p0 := HZ9.out.k7.cell 0 (v := .int .i64 0) rfl
                  have p1 := HZ9.out.k7.cell 1 (v := .int .i64 0) rfl
                  have p2 := HZ9.out.k7.cell 2 (v := .int .i64 0) rfl
                  have p3 := HZ9.out.k7.cell 3 (v := .slice none 0 0) rfl
                  have p4 := HZ9.out.k7.cell 4 (v := .slice none 0 0) rfl
                  have p5 := HZ9.out.k7.cell 5 (v := .bool false) rfl
                  refine bodyPost_ret (v := .tuple #[.agg #[.int .i64 0, .int .i64 0, .int .i64 0, .int .i64 0, .int .i64 0, .int .i64 0, .int .i64 0, .int .i64 0, .int .i64 0, .int .i64 0, .int .i64 0, .int .i64 0], .agg #[.int .i64 0, .int .i64 0, .int .i64 0, .slice none 0 0, .slice none 0 0, .bool false], .int .i64 k, .int .i64 7]) (by simp [results, Try.results31, go_sem, q0, q1, q2, q3, q4, q5, q6, q7, q8, q9, q10, q11, p0, p1, p2, p3, p4, p5]) rfl ⟨by rw [HE9.out]; rfl, HX9.out⟩
                case true =>
                  have HN0 : Hid (rvX beds ⟨left, inn, 0, tried⟩ j b = 0) := Lib.hid (by unfold rvX; rw [if_neg (fun h => by rcases h with h | h; exact h3 h; exact h rfl), if_neg (by have h := HTA.out; cases hq : (b != 0 && !beds.any (b == ·)); decide; rw [hq] at h; cases h)])
                  have HMEM := Lib.hid (rvX_ok HN0.out).2.2
                  have hlf : 0 ≤ left ∧ left ≤ 2000 := by have h1 := HJ.out.lo_; have h2 := HST.out.2.1; have h3 := HCN.out.1.2; dsimp only at h1; omega
                  have hsane : Sane left beds := fun x hx => by
                    have h1 := beds_bounds HBD.out.1 (.inr hx)
                    exact ⟨h1.1, by unfold I64; omega⟩
                  have hfin := ref_Finish start gin gout left inn beds ba bc w5 (HR.out.ext HX5.out) hsane HCN.out.2.1 HCN.out.2.2 (by have := HBD.out.2; omega)
                  have HHIT : Hid (∀ W', Calls Try.prog 68 #[.agg #[.int .i64 start, .int .i64 gin, .int .i64 gout], .agg #[.int .i64 left, .bool inn, .bool false, .bool false], .int .i64 b] W' fun e w' => e = .returned (stdV (hitS gin gout left inn b)) ∧ Ext W' w') := Lib.hid (fun W' => ref_Hit start gin gout left inn b W' (beds_bounds HBD.out.1 HMEM.out).1 (by have h1 := (beds_bounds HBD.out.1 HMEM.out).2; unfold I64; omega) HCN.out.2.1 HCN.out.2.2)
                  have HHB := Lib.hid (hit_bounds (gin := gin) (gout := gout) (inn := inn) (beds_bounds HBD.out.1 HMEM.out).2.1 hlf.1)
                  unfold stdV at HHIT
                  have HNX := Lib.hid (HNEXT.out HN0.out)
                  unfold rvN at HNX
                  dsimp only at HNX
                  obtain ⟨⟨hL, hI, E⟩, hH⟩ : ∃ y, hitS gin gout left inn b = y := ⟨_, rfl⟩
                  rw [hH] at HHIT HHB HNX
                  simp only at HHIT HHB HNX
                  obtain ⟨fi, hfi⟩ : ∃ y, fin gin gout beds left inn = y := ⟨_, rfl⟩
                  rw [hfi] at hfin
                  have HFI : Hid (finI gin gout beds left inn = if fi = true then 1 else 0) := Lib.hid (by unfold finI; rw [hfi])
                  have HFIN := Lib.hid hfin
                  have hkc := HJ.out.kc.ext HXN.out
                  have HKC := Lib.hid hkc
                  have HBN5 := Lib.hid (HBN'.out.ext HXN.out)
                  clear hfin hfi hH hsane hlf hkc hnt
                  have k0 := HKC.out.cell 0 (v := .int .i64 start) rfl
                  have k1 := HKC.out.cell 1 (v := .int .i64 gin) rfl
                  have k2' := HKC.out.cell 2 (v := .int .i64 gout) rfl
                  have kl' := HKC.out.lt
                  have n0 := HBN5.out.cell 0 (v := .int .i64 left) rfl
                  have n1 := HBN5.out.cell 1 (v := .bool inn) rfl
                  have n2 := HBN5.out.cell 2 (v := .bool false) rfl
                  have n3 := HBN5.out.cell 3 (v := .bool false) rfl
                  have nl := HBN5.out.lt
                  clear c0 c1
                  go_wp2_with fail
                  refine HFIN.out.mono ?_
                  rintro r w6 ⟨rfl, hx6⟩
                  have HX6 := Lib.hid (HXN.out.trans hx6)
                  have HBN6 := Lib.hid (HBN5.out.ext hx6)
                  have HKC6 := Lib.hid (HKC.out.ext hx6)
                  have HC6 := Lib.hid ((HX5.out.trans hx6).cell HCELL.out)
                  have HD6 := Lib.hid ((HXN.out.trans hx6).cell HD0.out)
                  have htr : wrap64 (tried + 1) = tried + 1 := by have h := HJ.out.tr; dsimp only at h; exact wrap64_in' ⟨by omega, by omega⟩
                  clear hx6 k0 k1 k2' kl' n0 n1 n2 n3 nl HFIN
                  have k0 : ∀ y : Lat (fun b _ => b = kn) w6, y.world.cell? ⟨B, 0, none⟩ = some (.int .i64 start) := fun y => (HKC6.out.chg y.chg (by have h := HKN.out; rintro ⟨_, e⟩; omega)).cell 0 rfl
                  have k1 : ∀ y : Lat (fun b _ => b = kn) w6, y.world.cell? ⟨B, 1, none⟩ = some (.int .i64 gin) := fun y => (HKC6.out.chg y.chg (by have h := HKN.out; rintro ⟨_, e⟩; omega)).cell 1 rfl
                  have k2' : ∀ y : Lat (fun b _ => b = kn) w6, y.world.cell? ⟨B, 2, none⟩ = some (.int .i64 gout) := fun y => (HKC6.out.chg y.chg (by have h := HKN.out; rintro ⟨_, e⟩; omega)).cell 2 rfl
                  have c0 : ∀ y : Lat (fun b _ => b = kn) w6, y.world.cell? ⟨bb, bo + k, none⟩ = some (.slice (some ⟨b3, o3, none⟩) vb.length wc') := fun y => y.chg.cell HC6.out (by have h := HKN.out; have h2 := lt_of_cell HCELL.out; have h3 := HB3.out; rintro ⟨_, e⟩; simp only at e h2; omega)
                  have d0 : ∀ y : Lat (fun b _ => b = kn) w6, y.world.cell? ⟨b3, o3 + j, none⟩ = some (.int .i64 b) := fun y => y.chg.cell HD6.out (by have h := HKN.out; have h2 := HDL.out; have h3 := HB3.out; rintro ⟨_, e⟩; simp only at e; omega)
                  have kl' := HKC6.out.lt
                  have cl := lt_of_cell HC6.out
                  have dl := lt_of_cell HD6.out
                  simp only at cl dl
                  cases fi
                  · go_upto_region 26 with fail
                    refine wp_region_lat (by kernel_rfl) (fun b _ => b = kn) (fun k => (k == 1) || ((k == 10))) (RsIs [(1, .agg #[.int .i64 left, .bool inn, .bool false, .bool false])]) (fun L _ W => Blk W kn (bif L 10 then #[.int .i64 hL, .bool hI, .bool (E == 1), .bool (E == 2)] else #[.int .i64 left, .bool inn, .bool false, .bool false])) (by kernel_rfl)
                      (fun k hk => by
                        simp only [Bool.or_eq_true, beq_iff_eq] at hk
                        rcases hk with rfl | rfl <;> decide)
                      (fun L L' u w' h hg => by first | (rw [h 10 (by rfl)]; exact hg) | exact hg) (fun L u a b h hx => h.ext hx) (rsW [(1, .agg #[.int .i64 left, .bool inn, .bool false, .bool false])]) (fun k _ => rsW_ok _ k) (HBN6.out.ext (Ext.refl w6).drew) ?_
                    intro T hT hne2 u hu
                    have e_1 : u 1 = .agg #[.int .i64 left, .bool inn, .bool false, .bool false] := hu 1 rfl
                    refine lx_next 1 (by rfl) (by decide) ?_
                    dsimp only [List.take, List.drop]
                    repeat (go_big_quiet_step (with_reducible refine Calls.lat hT (HHIT.out _)))
                    refine wpQuiet_nil ?_
                    refine lx_loud (by rfl) (by kernel_rfl) ?_ (fun K hK => ?_)
                    · intro L w4 hL hd hcl hC hs
                      obtain ⟨y, rfl⟩ := hC
                      have d10 := hcl.off hL 40 10 (by kernel_rfl)
                      rw [d10] at hs
                      have hs : Blk y.world kn #[.int .i64 left, .bool inn, .bool false, .bool false] := hs
                      have r0 := hs.cell 0 (v := .int .i64 left) rfl
                      have r1 := hs.cell 1 (v := .bool inn) rfl
                      have r2 := hs.cell 2 (v := .bool false) rfl
                      have r3 := hs.cell 3 (v := .bool false) rfl
                      have rl := hs.lt
                      have HS := Lib.hid hs
                      have D10 := Lib.hid d10
                      have HLL := Lib.hid hL
                      clear hs hd hcl hL d10
                      go_wp2
                      exact ⟨rfl, ⟨y, rfl⟩, by first | (rw [show upd L 1 10 = L 10 from rfl, D10.out]; exact HS.out) | exact HS.out⟩
                    rw [e_1]
                    go_simp
                    with_reducible refine hK _ ?_
                    clear hK K
                    refine lx_next 8 (by rfl) (by decide) ?_
                    dsimp only [List.take, List.drop]
                    repeat (go_big_quiet_step (with_reducible refine Calls.lat hT (HHIT.out _)))
                    refine wpQuiet_nil ?_
                    refine lx_loud (by rfl) (by kernel_rfl) ?_ (fun K hK => ?_)
                    · intro L w4 hL hd hcl hC hs
                      obtain ⟨y, rfl⟩ := hC
                      rw [hL] at hs
                      have hs : Blk y.world kn #[.int .i64 left, .bool inn, .bool false, .bool false] := hs
                      have r0 := hs.cell 0 (v := .int .i64 left) rfl
                      have r1 := hs.cell 1 (v := .bool inn) rfl
                      have r2 := hs.cell 2 (v := .bool false) rfl
                      have r3 := hs.cell 3 (v := .bool false) rfl
                      have rf0 := hs.frozen 0
                      have rf1 := hs.frozen 1
                      have rf2 := hs.frozen 2
                      have rf3 := hs.frozen 3
                      have rl := hs.lt
                      have HS := Lib.hid hs
                      have HLL := Lib.hid hL
                      clear hs hd hcl hL
                      go_wp2
                      have hb0 : Blk _ kn #[.int .i64 hL, .bool inn, .bool false, .bool false] := HS.out.set 0 (.int .i64 hL)
                      have hb1 : Blk _ kn #[.int .i64 hL, .bool hI, .bool false, .bool false] := hb0.set 1 (.bool hI)
                      have hb2 : Blk _ kn #[.int .i64 hL, .bool hI, .bool (E == 1), .bool false] := hb1.set 2 (.bool (E == 1))
                      have hb3 : Blk _ kn #[.int .i64 hL, .bool hI, .bool (E == 1), .bool (E == 2)] := hb2.set 3 (.bool (E == 2))
                      exact ⟨trivial, ⟨y.chgd (((((Chg.refl (· = kn) y.world).setCell (.inr rfl) (.int .i64 hL)).setCell (.inr rfl) (.bool hI)).setCell (.inr rfl) (.bool (E == 1))).setCell (.inr rfl) (.bool (E == 2))) (fun b hb => .inr fun _ => hb), rfl⟩, by first | (rw [show upd L 10 10 = true from rfl]; exact hb3) | exact hb0⟩
                    go_simp
                    with_reducible refine hK _ ?_
                    clear hK K
                    refine lx_nil ?_
                    intro y hs
                    have HT9 : Hid (Blk y.world kn #[.int .i64 hL, .bool hI, .bool (E == 1), .bool (E == 2)]) := Lib.hid hs
                    have HCw9 : Hid (Chg (· = kn) w6 y.world) := Lib.hid (y.chg.mono (by rintro q - ⟨_, e⟩; exact e))
                    clear hs hu hT hne2 e_1 k0 k1 k2' c0 d0 kl' cl dl
                    generalize y.world = w9 at *
                    clear y
                    have HF9 := Lib.hid ((HJ.out.frm.ext HX6.out).set 6 rfl HCw9.out (r' := Res.blk kn #[.int .i64 hL, .bool hI, .bool (E == 1), .bool (E == 2)]) HT9.out (fun _ h => .inl h) (Nat.le_trans HJ.out.size HX6.out.size))
                    have HX9 := Lib.hid (Chg.to_ext (HJ.out.ext.trans HX6.out) HCw9.out (fun i h => by have h1 := HKN.out; have h2 := HB3.out; have h' : i = kn := h; omega))
                    have HK9 := Lib.hid (HKC6.out.chg HCw9.out (by have h := HKN.out; omega))
                    have HZ9 := Lib.hid ((HZJ.out.ext HX6.out).chg HCw9.out (by have h := HKN.out; omega) (by have h := HKN.out; omega))
                    have HS9 : Hid (lo ≤ w9.heap.size) := Lib.hid (Nat.le_trans (Nat.le_trans HJ.out.size HX6.out.size) HCw9.out.size)
                    go_wp2
                    go_roundw
                    case rel => exact ⟨j + 1, ⟨hL, hI, E, tried⟩, rfl, by go_num, ⟨hjt, by have h := HNX.out; rw [HFI.out] at h; simpa using h, ⟨HHB.out.1, by have h := HJ.out.lo_; have h2 := HHB.out.2; dsimp only at h; show hL ≤ _; omega⟩, by have h := HJ.out.tr; dsimp only at h; constructor <;> (dsimp only; omega), HF9.out, HS9.out, HK9.out, HZ9.out, HX9.out⟩⟩
                    case measure => simp [intOf]; omega
                  · go_upto_region 26 with fail
                    refine wp_region_lat (by kernel_rfl) (fun b _ => b = kn) (fun k => (k == 1) || ((k == 10))) (RsIs [(1, .agg #[.int .i64 left, .bool inn, .bool false, .bool false])]) (fun L _ W => Blk W kn (bif L 10 then #[.int .i64 hL, .bool hI, .bool (E == 1), .bool (E == 2)] else #[.int .i64 left, .bool inn, .bool false, .bool false])) (by kernel_rfl)
                      (fun k hk => by
                        simp only [Bool.or_eq_true, beq_iff_eq] at hk
                        rcases hk with rfl | rfl <;> decide)
                      (fun L L' u w' h hg => by first | (rw [h 10 (by rfl)]; exact hg) | exact hg) (fun L u a b h hx => h.ext hx) (rsW [(1, .agg #[.int .i64 left, .bool inn, .bool false, .bool false])]) (fun k _ => rsW_ok _ k) (HBN6.out.ext (Ext.refl w6).drew) ?_
                    intro T hT hne2 u hu
                    have e_1 : u 1 = .agg #[.int .i64 left, .bool inn, .bool false, .bool false] := hu 1 rfl
                    refine lx_next 1 (by rfl) (by decide) ?_
                    dsimp only [List.take, List.drop]
                    repeat (go_big_quiet_step (with_reducible refine Calls.lat hT (HHIT.out _)))
                    refine wpQuiet_nil ?_
                    refine lx_loud (by rfl) (by kernel_rfl) ?_ (fun K hK => ?_)
                    · intro L w4 hL hd hcl hC hs
                      obtain ⟨y, rfl⟩ := hC
                      have d10 := hcl.off hL 40 10 (by kernel_rfl)
                      rw [d10] at hs
                      have hs : Blk y.world kn #[.int .i64 left, .bool inn, .bool false, .bool false] := hs
                      have r0 := hs.cell 0 (v := .int .i64 left) rfl
                      have r1 := hs.cell 1 (v := .bool inn) rfl
                      have r2 := hs.cell 2 (v := .bool false) rfl
                      have r3 := hs.cell 3 (v := .bool false) rfl
                      have rl := hs.lt
                      have HS := Lib.hid hs
                      have D10 := Lib.hid d10
                      have HLL := Lib.hid hL
                      clear hs hd hcl hL d10
                      go_wp2
                      exact ⟨rfl, ⟨y, rfl⟩, by first | (rw [show upd L 1 10 = L 10 from rfl, D10.out]; exact HS.out) | exact HS.out⟩
                    rw [e_1]
                    go_simp
                    with_reducible refine hK _ ?_
                    clear hK K
                    refine lx_next 8 (by rfl) (by decide) ?_
                    dsimp only [List.take, List.drop]
                    repeat (go_big_quiet_step (with_reducible refine Calls.lat hT (HHIT.out _)))
                    refine wpQuiet_nil ?_
                    refine lx_loud (by rfl) (by kernel_rfl) ?_ (fun K hK => ?_)
                    · intro L w4 hL hd hcl hC hs
                      obtain ⟨y, rfl⟩ := hC
                      rw [hL] at hs
                      have hs : Blk y.world kn #[.int .i64 left, .bool inn, .bool false, .bool false] := hs
                      have r0 := hs.cell 0 (v := .int .i64 left) rfl
                      have r1 := hs.cell 1 (v := .bool inn) rfl
                      have r2 := hs.cell 2 (v := .bool false) rfl
                      have r3 := hs.cell 3 (v := .bool false) rfl
                      have rf0 := hs.frozen 0
                      have rf1 := hs.frozen 1
                      have rf2 := hs.frozen 2
                      have rf3 := hs.frozen 3
                      have rl := hs.lt
                      have HS := Lib.hid hs
                      have HLL := Lib.hid hL
                      clear hs hd hcl hL
                      go_wp2
                      have hb0 : Blk _ kn #[.int .i64 hL, .bool inn, .bool false, .bool false] := HS.out.set 0 (.int .i64 hL)
                      have hb1 : Blk _ kn #[.int .i64 hL, .bool hI, .bool false, .bool false] := hb0.set 1 (.bool hI)
                      have hb2 : Blk _ kn #[.int .i64 hL, .bool hI, .bool (E == 1), .bool false] := hb1.set 2 (.bool (E == 1))
                      have hb3 : Blk _ kn #[.int .i64 hL, .bool hI, .bool (E == 1), .bool (E == 2)] := hb2.set 3 (.bool (E == 2))
                      exact ⟨trivial, ⟨y.chgd (((((Chg.refl (· = kn) y.world).setCell (.inr rfl) (.int .i64 hL)).setCell (.inr rfl) (.bool hI)).setCell (.inr rfl) (.bool (E == 1))).setCell (.inr rfl) (.bool (E == 2))) (fun b hb => .inr fun _ => hb), rfl⟩, by first | (rw [show upd L 10 10 = true from rfl]; exact hb3) | exact hb0⟩
                    go_simp
                    with_reducible refine hK _ ?_
                    clear hK K
                    refine lx_nil ?_
                    intro y hs
                    have HT9 : Hid (Blk y.world kn #[.int .i64 hL, .bool hI, .bool (E == 1), .bool (E == 2)]) := Lib.hid hs
                    have HCw9 : Hid (Chg (· = kn) w6 y.world) := Lib.hid (y.chg.mono (by rintro q - ⟨_, e⟩; exact e))
                    clear hs hu hT hne2 e_1 k0 k1 k2' c0 d0 kl' cl dl
                    generalize y.world = w9 at *
                    clear y
                    have HF9 := Lib.hid ((HJ.out.frm.ext HX6.out).set 6 rfl HCw9.out (r' := Res.blk kn #[.int .i64 hL, .bool hI, .bool (E == 1), .bool (E == 2)]) HT9.out (fun _ h => .inl h) (Nat.le_trans HJ.out.size HX6.out.size))
                    have HX9 := Lib.hid (Chg.to_ext (HJ.out.ext.trans HX6.out) HCw9.out (fun i h => by have h1 := HKN.out; have h2 := HB3.out; have h' : i = kn := h; omega))
                    have HK9 := Lib.hid (HKC6.out.chg HCw9.out (by have h := HKN.out; omega))
                    have HZ9 := Lib.hid ((HZJ.out.ext HX6.out).chg HCw9.out (by have h := HKN.out; omega) (by have h := HKN.out; omega))
                    have HS9 : Hid (lo ≤ w9.heap.size) := Lib.hid (Nat.le_trans (Nat.le_trans HJ.out.size HX6.out.size) HCw9.out.size)
                    go_wp2
                    go_roundw
                    case rel => exact ⟨j + 1, ⟨hL, hI, E, tried + 1⟩, rfl, by go_num, ⟨hjt, by have h := HNX.out; rw [HFI.out] at h; simpa using h, ⟨HHB.out.1, by have h := HJ.out.lo_; have h2 := HHB.out.2; dsimp only at h; show hL ≤ _; omega⟩, by have h := HJ.out.tr; dsimp only at h; constructor <;> (dsimp only; omega), HF9.out, HS9.out, HK9.out, HZ9.out, HX9.out⟩⟩
                    case measure => simp [intOf]; omega
          · subst hE
            have HE9 := Lib.hid (HERR.out 32 (by decide) (by unfold rvX; rw [if_pos (.inr (by show ¬ ((1 : Int) = 0); decide))]))
            have n2 := HBN'.out.cell 2 (v := .bool true) rfl
            have nl := HBN'.out.lt
            have z0 := HZJ.out.k6.cell 0 (v := .int .i64 0) rfl
            have zf0 := HZJ.out.k6.frozen 0
            have z1 := HZJ.out.k6.cell 1 (v := .int .i64 0) rfl
            have zf1 := HZJ.out.k6.frozen 1
            have z2 := HZJ.out.k6.cell 2 (v := .int .i64 0) rfl
            have zf2 := HZJ.out.k6.frozen 2
            have z3 := HZJ.out.k6.cell 3 (v := .int .i64 0) rfl
            have zf3 := HZJ.out.k6.frozen 3
            have z4 := HZJ.out.k6.cell 4 (v := .int .i64 0) rfl
            have zf4 := HZJ.out.k6.frozen 4
            have z5 := HZJ.out.k6.cell 5 (v := .int .i64 0) rfl
            have zf5 := HZJ.out.k6.frozen 5
            have z6 := HZJ.out.k6.cell 6 (v := .int .i64 0) rfl
            have zf6 := HZJ.out.k6.frozen 6
            have z7 := HZJ.out.k6.cell 7 (v := .int .i64 0) rfl
            have zf7 := HZJ.out.k6.frozen 7
            have z8 := HZJ.out.k6.cell 8 (v := .int .i64 0) rfl
            have zf8 := HZJ.out.k6.frozen 8
            have z9 := HZJ.out.k6.cell 9 (v := .int .i64 0) rfl
            have zf9 := HZJ.out.k6.frozen 9
            have z10 := HZJ.out.k6.cell 10 (v := .int .i64 0) rfl
            have zf10 := HZJ.out.k6.frozen 10
            have z11 := HZJ.out.k6.cell 11 (v := .int .i64 0) rfl
            have zf11 := HZJ.out.k6.frozen 11
            have zl := HZJ.out.k6.lt
            have y0 := HZJ.out.k7.cell 0 (v := .int .i64 0) rfl
            have yf0 := HZJ.out.k7.frozen 0
            have y1 := HZJ.out.k7.cell 1 (v := .int .i64 0) rfl
            have yf1 := HZJ.out.k7.frozen 1
            have y2 := HZJ.out.k7.cell 2 (v := .int .i64 0) rfl
            have yf2 := HZJ.out.k7.frozen 2
            have y3 := HZJ.out.k7.cell 3 (v := .slice none 0 0) rfl
            have yf3 := HZJ.out.k7.frozen 3
            have y4 := HZJ.out.k7.cell 4 (v := .slice none 0 0) rfl
            have yf4 := HZJ.out.k7.frozen 4
            have y5 := HZJ.out.k7.cell 5 (v := .bool false) rfl
            have yf5 := HZJ.out.k7.frozen 5
            have yl := HZJ.out.k7.lt
            go_wp2
            have HZ9 := Lib.hid HZJ.out.set6.set7
            have HX9 := Lib.hid (Chg.to_ext HJ.out.ext ((twl_chg (fun k => k = (B + 1) ∨ k = (B + 1 + 1)) w2 (b := (B + 1)) (.inl rfl) (.int .i64 0) (.int .i64 0) (.int .i64 0) (.int .i64 0) (.int .i64 0) (.int .i64 0) (.int .i64 0) (.int .i64 0) (.int .i64 0) (.int .i64 0) (.int .i64 0) (.int .i64 0)).trans (six_chg (fun k => k = (B + 1) ∨ k = (B + 1 + 1)) _ (b := (B + 1 + 1)) (.inr rfl) (.int .i64 0) (.int .i64 0) (.int .i64 0) (.slice none 0 0) (.slice none 0 0) (.bool false))) (by intro i hi; have h := HBB.out; rcases hi with hi | hi <;> omega))
            generalize hW9 : World.setCell _ _ _ = W9
            rw [hW9] at HZ9 HX9
            clear hW9 z0 zf0 z1 zf1 z2 zf2 z3 zf3 z4 zf4 z5 zf5 z6 zf6 z7 zf7 z8 zf8 z9 zf9 z10 zf10 z11 zf11 zl y0 yf0 y1 yf1 y2 yf2 y3 yf3 y4 yf4 y5 yf5 yl
            have q0 := HZ9.out.k6.cell 0 (v := .int .i64 0) rfl
            have q1 := HZ9.out.k6.cell 1 (v := .int .i64 0) rfl
            have q2 := HZ9.out.k6.cell 2 (v := .int .i64 0) rfl
            have q3 := HZ9.out.k6.cell 3 (v := .int .i64 0) rfl
            have q4 := HZ9.out.k6.cell 4 (v := .int .i64 0) rfl
            have q5 := HZ9.out.k6.cell 5 (v := .int .i64 0) rfl
            have q6 := HZ9.out.k6.cell 6 (v := .int .i64 0) rfl
            have q7 := HZ9.out.k6.cell 7 (v := .int .i64 0) rfl
            have q8 := HZ9.out.k6.cell 8 (v := .int .i64 0) rfl
            have q9 := HZ9.out.k6.cell 9 (v := .int .i64 0) rfl
            have q10 := HZ9.out.k6.cell 10 (v := .int .i64 0) rfl
            have q11 := HZ9.out.k6.cell 11 (v := .int .i64 0) rfl
            have p0 := HZ9.out.k7.cell 0 (v := .int .i64 0) rfl
            have p1 := HZ9.out.k7.cell 1 (v := .int .i64 0) rfl
            have p2 := HZ9.out.k7.cell 2 (v := .int .i64 0) rfl
            have p3 := HZ9.out.k7.cell 3 (v := .slice none 0 0) rfl
            have p4 := HZ9.out.k7.cell 4 (v := .slice none 0 0) rfl
            have p5 := HZ9.out.k7.cell 5 (v := .bool false) rfl
            refine bodyPost_ret (v := .tuple #[.agg #[.int .i64 0, .int .i64 0, .int .i64 0, .int .i64 0, .int .i64 0, .int .i64 0, .int .i64 0, .int .i64 0, .int .i64 0, .int .i64 0, .int .i64 0, .int .i64 0], .agg #[.int .i64 0, .int .i64 0, .int .i64 0, .slice none 0 0, .slice none 0 0, .bool false], .int .i64 k, .int .i64 32]) (by simp [results, Try.results31, go_sem, q0, q1, q2, q3, q4, q5, q6, q7, q8, q9, q10, q11, p0, p1, p2, p3, p4, p5]) rfl ⟨by rw [HE9.out]; rfl, HX9.out⟩
          · subst hE
            have HE9 := Lib.hid (HERR.out 32 (by decide) (by unfold rvX; rw [if_pos (.inr (by show ¬ ((2 : Int) = 0); decide))]))
            have n2 := HBN'.out.cell 2 (v := .bool false) rfl
            have n3 := HBN'.out.cell 3 (v := .bool true) rfl
            have nl := HBN'.out.lt
            have z0 := HZJ.out.k6.cell 0 (v := .int .i64 0) rfl
            have zf0 := HZJ.out.k6.frozen 0
            have z1 := HZJ.out.k6.cell 1 (v := .int .i64 0) rfl
            have zf1 := HZJ.out.k6.frozen 1
            have z2 := HZJ.out.k6.cell 2 (v := .int .i64 0) rfl
            have zf2 := HZJ.out.k6.frozen 2
            have z3 := HZJ.out.k6.cell 3 (v := .int .i64 0) rfl
            have zf3 := HZJ.out.k6.frozen 3
            have z4 := HZJ.out.k6.cell 4 (v := .int .i64 0) rfl
            have zf4 := HZJ.out.k6.frozen 4
            have z5 := HZJ.out.k6.cell 5 (v := .int .i64 0) rfl
            have zf5 := HZJ.out.k6.frozen 5
            have z6 := HZJ.out.k6.cell 6 (v := .int .i64 0) rfl
            have zf6 := HZJ.out.k6.frozen 6
            have z7 := HZJ.out.k6.cell 7 (v := .int .i64 0) rfl
            have zf7 := HZJ.out.k6.frozen 7
            have z8 := HZJ.out.k6.cell 8 (v := .int .i64 0) rfl
            have zf8 := HZJ.out.k6.frozen 8
            have z9 := HZJ.out.k6.cell 9 (v := .int .i64 0) rfl
            have zf9 := HZJ.out.k6.frozen 9
            have z10 := HZJ.out.k6.cell 10 (v := .int .i64 0) rfl
            have zf10 := HZJ.out.k6.frozen 10
            have z11 := HZJ.out.k6.cell 11 (v := .int .i64 0) rfl
            have zf11 := HZJ.out.k6.frozen 11
            have zl := HZJ.out.k6.lt
            have y0 := HZJ.out.k7.cell 0 (v := .int .i64 0) rfl
            have yf0 := HZJ.out.k7.frozen 0
            have y1 := HZJ.out.k7.cell 1 (v := .int .i64 0) rfl
            have yf1 := HZJ.out.k7.frozen 1
            have y2 := HZJ.out.k7.cell 2 (v := .int .i64 0) rfl
            have yf2 := HZJ.out.k7.frozen 2
            have y3 := HZJ.out.k7.cell 3 (v := .slice none 0 0) rfl
            have yf3 := HZJ.out.k7.frozen 3
            have y4 := HZJ.out.k7.cell 4 (v := .slice none 0 0) rfl
            have yf4 := HZJ.out.k7.frozen 4
            have y5 := HZJ.out.k7.cell 5 (v := .bool false) rfl
            have yf5 := HZJ.out.k7.frozen 5
            have yl := HZJ.out.k7.lt
            go_wp2
            have HZ9 := Lib.hid HZJ.out.set6.set7
            have HX9 := Lib.hid (Chg.to_ext HJ.out.ext ((twl_chg (fun k => k = (B + 1) ∨ k = (B + 1 + 1)) w2 (b := (B + 1)) (.inl rfl) (.int .i64 0) (.int .i64 0) (.int .i64 0) (.int .i64 0) (.int .i64 0) (.int .i64 0) (.int .i64 0) (.int .i64 0) (.int .i64 0) (.int .i64 0) (.int .i64 0) (.int .i64 0)).trans (six_chg (fun k => k = (B + 1) ∨ k = (B + 1 + 1)) _ (b := (B + 1 + 1)) (.inr rfl) (.int .i64 0) (.int .i64 0) (.int .i64 0) (.slice none 0 0) (.slice none 0 0) (.bool false))) (by intro i hi; have h := HBB.out; rcases hi with hi | hi <;> omega))
            generalize hW9 : World.setCell _ _ _ = W9
            rw [hW9] at HZ9 HX9
            clear hW9 z0 zf0 z1 zf1 z2 zf2 z3 zf3 z4 zf4 z5 zf5 z6 zf6 z7 zf7 z8 zf8 z9 zf9 z10 zf10 z11 zf11 zl y0 yf0 y1 yf1 y2 yf2 y3 yf3 y4 yf4 y5 yf5 yl
            have q0 := HZ9.out.k6.cell 0 (v := .int .i64 0) rfl
            have q1 := HZ9.out.k6.cell 1 (v := .int .i64 0) rfl
            have q2 := HZ9.out.k6.cell 2 (v := .int .i64 0) rfl
            have q3 := HZ9.out.k6.cell 3 (v := .int .i64 0) rfl
            have q4 := HZ9.out.k6.cell 4 (v := .int .i64 0) rfl
            have q5 := HZ9.out.k6.cell 5 (v := .int .i64 0) rfl
            have q6 := HZ9.out.k6.cell 6 (v := .int .i64 0) rfl
            have q7 := HZ9.out.k6.cell 7 (v := .int .i64 0) rfl
            have q8 := HZ9.out.k6.cell 8 (v := .int .i64 0) rfl
            have q9 := HZ9.out.k6.cell 9 (v := .int .i64 0) rfl
            have q10 := HZ9.out.k6.cell 10 (v := .int .i64 0) rfl
            have q11 := HZ9.out.k6.cell 11 (v := .int .i64 0) rfl
            have p0 := HZ9.out.k7.cell 0 (v := .int .i64 0) rfl
            have p1 := HZ9.out.k7.cell 1 (v := .int .i64 0) rfl
            have p2 := HZ9.out.k7.cell 2 (v := .int .i64 0) rfl
            have p3 := HZ9.out.k7.cell 3 (v := .slice none 0 0) rfl
            have p4 := HZ9.out.k7.cell 4 (v := .slice none 0 0) rfl
            have p5 := HZ9.out.k7.cell 5 (v := .bool false) rfl
            refine bodyPost_ret (v := .tuple #[.agg #[.int .i64 0, .int .i64 0, .int .i64 0, .int .i64 0, .int .i64 0, .int .i64 0, .int .i64 0, .int .i64 0, .int .i64 0, .int .i64 0, .int .i64 0, .int .i64 0], .agg #[.int .i64 0, .int .i64 0, .int .i64 0, .slice none 0 0, .slice none 0 0, .bool false], .int .i64 k, .int .i64 32]) (by simp [results, Try.results31, go_sem, q0, q1, q2, q3, q4, q5, q6, q7, q8, q9, q10, q11, p0, p1, p2, p3, p4, p5]) rfl ⟨by rw [HE9.out]; rfl, HX9.out⟩
        · go_upto_if 63 with fail
          refine wp_cond_false rfl ?_
          refine wp_exit ?_
          refine b0 _ _ ?_
          clear b0
          obtain rfl : j = vb.length := by have := HJ.out.le; omega
          have HRV : Hid (rvF gin gout beds vb 0 ⟨e.left, e.inn, 0, 0⟩ = .inl ⟨left, inn, eff, tried⟩) := Lib.hid (by have h := HJ.out.res; rwa [List.take_length] at h)
          have HL3 : Hid (vb.length ≤ 3) := Lib.hid (by have := (rvF_spec HBD.out.1 vb 0 _ _ (.inl rfl) (by omega) HRV.out).2.2.1; omega)
          have hbn : Blk w2 kn #[.int .i64 left, .bool inn, .bool (eff == 1), .bool (eff == 2)] := HJ.out.frm.get 6 rfl
          have HBN' := Lib.hid hbn
          have HZJ := Lib.hid HJ.out.zed
          obtain ⟨m, hm⟩ : ∃ m, vb.length = m := ⟨_, rfl⟩
          rw [hm] at c0 HL3 ⊢
          have HM := Lib.hid hm
          clear hbn
          by_cases h31 : m < 3 ∧ eff = 0
          case pos =>
            obtain ⟨h31, rfl⟩ := h31
            have HE9 : Hid (R = .inr ((k : Int), 31)) := Lib.hid (by rw [HI.out.res]; exact HSTEP.out.1 31 HWN.out (by unfold rvE; rw [HRV.out]; dsimp only; rw [if_pos ⟨by rw [HM.out]; exact h31, rfl⟩]) (by decide))
            have n2 := HBN'.out.cell 2 (v := .bool false) rfl
            have n3 := HBN'.out.cell 3 (v := .bool false) rfl
            have nl := HBN'.out.lt
            have hlm : (m : Int) < 3 := by omega
            clear hm
            have z0 := HZJ.out.k6.cell 0 (v := .int .i64 0) rfl
            have zf0 := HZJ.out.k6.frozen 0
            have z1 := HZJ.out.k6.cell 1 (v := .int .i64 0) rfl
            have zf1 := HZJ.out.k6.frozen 1
            have z2 := HZJ.out.k6.cell 2 (v := .int .i64 0) rfl
            have zf2 := HZJ.out.k6.frozen 2
            have z3 := HZJ.out.k6.cell 3 (v := .int .i64 0) rfl
            have zf3 := HZJ.out.k6.frozen 3
            have z4 := HZJ.out.k6.cell 4 (v := .int .i64 0) rfl
            have zf4 := HZJ.out.k6.frozen 4
            have z5 := HZJ.out.k6.cell 5 (v := .int .i64 0) rfl
            have zf5 := HZJ.out.k6.frozen 5
            have z6 := HZJ.out.k6.cell 6 (v := .int .i64 0) rfl
            have zf6 := HZJ.out.k6.frozen 6
            have z7 := HZJ.out.k6.cell 7 (v := .int .i64 0) rfl
            have zf7 := HZJ.out.k6.frozen 7
            have z8 := HZJ.out.k6.cell 8 (v := .int .i64 0) rfl
            have zf8 := HZJ.out.k6.frozen 8
            have z9 := HZJ.out.k6.cell 9 (v := .int .i64 0) rfl
            have zf9 := HZJ.out.k6.frozen 9
            have z10 := HZJ.out.k6.cell 10 (v := .int .i64 0) rfl
            have zf10 := HZJ.out.k6.frozen 10
            have z11 := HZJ.out.k6.cell 11 (v := .int .i64 0) rfl
            have zf11 := HZJ.out.k6.frozen 11
            have zl := HZJ.out.k6.lt
            have y0 := HZJ.out.k7.cell 0 (v := .int .i64 0) rfl
            have yf0 := HZJ.out.k7.frozen 0
            have y1 := HZJ.out.k7.cell 1 (v := .int .i64 0) rfl
            have yf1 := HZJ.out.k7.frozen 1
            have y2 := HZJ.out.k7.cell 2 (v := .int .i64 0) rfl
            have yf2 := HZJ.out.k7.frozen 2
            have y3 := HZJ.out.k7.cell 3 (v := .slice none 0 0) rfl
            have yf3 := HZJ.out.k7.frozen 3
            have y4 := HZJ.out.k7.cell 4 (v := .slice none 0 0) rfl
            have yf4 := HZJ.out.k7.frozen 4
            have y5 := HZJ.out.k7.cell 5 (v := .bool false) rfl
            have yf5 := HZJ.out.k7.frozen 5
            have yl := HZJ.out.k7.lt
            go_wp2
            have HZ9 := Lib.hid HZJ.out.set6.set7
            have HX9 := Lib.hid (Chg.to_ext HJ.out.ext ((twl_chg (fun k => k = (B + 1) ∨ k = (B + 1 + 1)) w2 (b := (B + 1)) (.inl rfl) (.int .i64 0) (.int .i64 0) (.int .i64 0) (.int .i64 0) (.int .i64 0) (.int .i64 0) (.int .i64 0) (.int .i64 0) (.int .i64 0) (.int .i64 0) (.int .i64 0) (.int .i64 0)).trans (six_chg (fun k => k = (B + 1) ∨ k = (B + 1 + 1)) _ (b := (B + 1 + 1)) (.inr rfl) (.int .i64 0) (.int .i64 0) (.int .i64 0) (.slice none 0 0) (.slice none 0 0) (.bool false))) (by intro i hi; have h := HBB.out; rcases hi with hi | hi <;> omega))
            generalize hW9 : World.setCell _ _ _ = W9
            rw [hW9] at HZ9 HX9
            clear hW9 z0 zf0 z1 zf1 z2 zf2 z3 zf3 z4 zf4 z5 zf5 z6 zf6 z7 zf7 z8 zf8 z9 zf9 z10 zf10 z11 zf11 zl y0 yf0 y1 yf1 y2 yf2 y3 yf3 y4 yf4 y5 yf5 yl
            have q0 := HZ9.out.k6.cell 0 (v := .int .i64 0) rfl
            have q1 := HZ9.out.k6.cell 1 (v := .int .i64 0) rfl
            have q2 := HZ9.out.k6.cell 2 (v := .int .i64 0) rfl
            have q3 := HZ9.out.k6.cell 3 (v := .int .i64 0) rfl
            have q4 := HZ9.out.k6.cell 4 (v := .int .i64 0) rfl
            have q5 := HZ9.out.k6.cell 5 (v := .int .i64 0) rfl
            have q6 := HZ9.out.k6.cell 6 (v := .int .i64 0) rfl
            have q7 := HZ9.out.k6.cell 7 (v := .int .i64 0) rfl
            have q8 := HZ9.out.k6.cell 8 (v := .int .i64 0) rfl
            have q9 := HZ9.out.k6.cell 9 (v := .int .i64 0) rfl
            have q10 := HZ9.out.k6.cell 10 (v := .int .i64 0) rfl
            have q11 := HZ9.out.k6.cell 11 (v := .int .i64 0) rfl
            have p0 := HZ9.out.k7.cell 0 (v := .int .i64 0) rfl
            have p1 := HZ9.out.k7.cell 1 (v := .int .i64 0) rfl
            have p2 := HZ9.out.k7.cell 2 (v := .int .i64 0) rfl
            have p3 := HZ9.out.k7.cell 3 (v := .slice none 0 0) rfl
            have p4 := HZ9.out.k7.cell 4 (v := .slice none 0 0) rfl
            have p5 := HZ9.out.k7.cell 5 (v := .bool false) rfl
            refine bodyPost_ret (v := .tuple #[.agg #[.int .i64 0, .int .i64 0, .int .i64 0, .int .i64 0, .int .i64 0, .int .i64 0, .int .i64 0, .int .i64 0, .int .i64 0, .int .i64 0, .int .i64 0, .int .i64 0], .agg #[.int .i64 0, .int .i64 0, .int .i64 0, .slice none 0 0, .slice none 0 0, .bool false], .int .i64 k, .int .i64 31]) (by simp [results, Try.results31, go_sem, q0, q1, q2, q3, q4, q5, q6, q7, q8, q9, q10, q11, p0, p1, p2, p3, p4, p5]) rfl ⟨by rw [HE9.out]; rfl, HX9.out⟩
          case neg =>
          have HRE : Hid (rvE gin gout beds e vb = .inl ⟨left, inn, eff, tried⟩) := Lib.hid (by unfold rvE; rw [HRV.out]; dsimp only; rw [if_neg (by rw [HM.out]; exact h31)])
          have HG := Lib.hid (HSTEP.out.2.2 _ HWN.out HRE.out)
          have HOK2 : Hid (eff = 1 ∨ StOk start gout left inn) := Lib.hid (rvF_left HBD.out.1 vb 0 _ _ start HST.out HRV.out)
          obtain ⟨L2, I2, W2, hU⟩ : ∃ L2 I2 W2, (eff = 2 → L2 = e.left ∧ I2 = e.inn ∧ W2 = false) ∧ (eff ≠ 2 → L2 = left ∧ I2 = inn ∧ W2 = (eff == 1)) ∧ rxU e m ⟨left, inn, eff, tried⟩ = ⟨sumS e.t ⟨m, m, tried, tried, true⟩ ⟨e.left - L2, W2⟩, L2, I2, e.scores ++ [e.left - L2], W2⟩ := by
            by_cases h2 : eff = 2
            · exact ⟨e.left, e.inn, false, fun _ => ⟨rfl, rfl, rfl⟩, fun h => absurd h2 h, by unfold rxU; rw [if_pos h2, Int.sub_self]⟩
            · exact ⟨left, inn, eff == 1, fun h => absurd h h2, fun _ => ⟨rfl, rfl, rfl⟩, by unfold rxU; rw [if_neg h2]⟩
          have HU := Lib.hid hU
          have HLB : Hid (0 ≤ L2 ∧ L2 ≤ e.left ∧ e.left ≤ 1001 ∧ 0 ≤ e.left ∧ 0 ≤ tried ∧ tried ≤ 3) := Lib.hid (by
            have h1 := HJ.out.lo_
            have h2 := HST.out.2.1
            have h3 := HCN.out.1.2
            have h4 := HJ.out.tr
            have h5 := HL3.out
            rw [HM.out] at h4
            dsimp only at h1 h4
            by_cases h6 : eff = 2
            · have := (hU.1 h6).1; omega
            · have := (hU.2.1 h6).1; omega)
          have HOK3 : Hid (W2 = true ∨ StOk start gout L2 I2) := Lib.hid (by
            by_cases h2 : eff = 2
            · obtain ⟨rfl, rfl, rfl⟩ := hU.1 h2; exact .inr HST.out
            · obtain ⟨rfl, rfl, rfl⟩ := hU.2.1 h2
              rcases HOK2.out with h | h
              · left; rw [h]; rfl
              · exact .inr h)
          clear hU hm
          refine wp_seq_k ?_
          intro K1 b1
          go_cut [] (fun wx => wx = w2)
          case first =>
            have hc0 := c0
            have nl := HBN'.out.lt
            have hEF : eff = 0 ∨ eff = 1 ∨ eff = 2 := HEFF.out
            rcases hEF with hE | hE | hE
            · have hlm : ¬ ((m : Int) < 3) := by intro h; exact h31 ⟨by omega, hE⟩
              clear h31
              subst hE
              go_wp2
              go_meet
              rfl
            · have n2 := HBN'.out.cell 2 (v := .bool true) (by rw [hE]; rfl)
              clear h31
              by_cases hlm : (m : Int) < 3
              all_goals
                go_wp2
                go_meet
                rfl
            · have n2 := HBN'.out.cell 2 (v := .bool false) (by rw [hE]; rfl)
              have n3 := HBN'.out.cell 3 (v := .bool true) (by rw [hE]; rfl)
              clear h31
              by_cases hlm : (m : Int) < 3
              all_goals
                go_wp2
                go_meet
                rfl
          case rest =>
          have hcut' := hcut
          subst hcut'
          obtain ⟨w7, hw7e⟩ : ∃ x, x = wc := ⟨_, rfl⟩
          subst hw7e
          refine b1 _ _ ?_
          clear b1
          refine wp_seq_k ?_
          intro K2 b2
          go_cut [] (fun wx => Blk wx kn #[.int .i64 L2, .bool I2, .bool W2, .bool false] ∧ Chg (· = kn) w7 wx)
          case first =>
            have hbs : Blk w7 k11 #[.int .i64 e.left, .bool e.inn, .bool false, .bool false] := by have h : Blk w7 k11 #[.int .i64 e.left, .bool e.inn, .bool e.won, .bool false] := HJ.out.frm.get 3 rfl; rw [HWN.out] at h; exact h
            have hc0 := c0
            by_cases h2 : eff = 2
            · have n3 := HBN'.out.cell 3 (v := .bool true) (by rw [h2]; rfl)
              obtain ⟨e1, e2, e3⟩ := HU.out.1 h2
              have m0 := HBN'.out.cell 0 (v := .int .i64 left) rfl
              have mf0 := HBN'.out.frozen 0
              have m1 := HBN'.out.cell 1 (v := .bool inn) rfl
              have mf1 := HBN'.out.frozen 1
              have m2 := HBN'.out.cell 2 (v := .bool (eff == 1)) rfl
              have mf2 := HBN'.out.frozen 2
              have m3 := HBN'.out.cell 3 (v := .bool (eff == 2)) rfl
              have mf3 := HBN'.out.frozen 3
              have ml := HBN'.out.lt
              have s0 := hbs.cell 0 (v := .int .i64 e.left) rfl
              have s1 := hbs.cell 1 (v := .bool e.inn) rfl
              have s2 := hbs.cell 2 (v := .bool false) rfl
              have s3 := hbs.cell 3 (v := .bool false) rfl
              have sl := hbs.lt
              clear hbs h31 h2 m3
              have HQ := Lib.hid (four_set HBN'.out (.int .i64 e.left) (.bool e.inn) (.bool false) (.bool false))
              have HQC := Lib.hid (four_chg (· = kn) w7 (b := kn) rfl (.int .i64 e.left) (.bool e.inn) (.bool false) (.bool false))
              subst e1 e2 e3
              go_wp2
              go_meet
              exact ⟨HQ.out, HQC.out⟩
            · have e2 : (eff == 2) = false := by simpa using h2
              have n3 := HBN'.out.cell 3 (v := .bool false) (by rw [e2]; rfl)
              have nl := HBN'.out.lt
              have HQ : Hid (Blk w7 kn #[.int .i64 L2, .bool I2, .bool W2, .bool false]) := Lib.hid (by
                obtain ⟨e3, e4, e5⟩ := HU.out.2.1 h2
                rw [e3, e4, e5]
                have h := HBN'.out
                rw [e2] at h
                exact h)
              clear hbs h31 h2 e2
              go_wp2
              go_meet
              exact ⟨HQ.out, Chg.refl _ _⟩
          case rest =>
          obtain ⟨hb9, hc9⟩ := hcut
          refine b2 _ _ ?_
          clear b2
          obtain ⟨w9, hw9e⟩ : ∃ x, x = wc := ⟨_, rfl⟩
          subst hw9e
          have HF9 := Lib.hid (HJ.out.frm.set 6 rfl hc9 (r' := Res.blk kn #[.int .i64 L2, .bool I2, .bool W2, .bool false]) hb9 (fun _ h => .inl h) HJ.out.size)
          have HX9 := Lib.hid (Chg.to_ext HJ.out.ext hc9 (fun i h => by have h1 := HKN.out; have h2 := HB3.out; have h' : i = kn := h; omega))
          have HK9 := Lib.hid (HJ.out.kc.chg hc9 (by have h := HKN.out; omega))
          have HZ9 := Lib.hid (HZJ.out.chg hc9 (by have h := HKN.out; omega) (by have h := HKN.out; omega))
          have HS9 : Hid (lo ≤ w9.heap.size) := Lib.hid (Nat.le_trans HJ.out.size hc9.size)
          have HC9 := Lib.hid (HX9.out.cell HCELL.out)
          have HB9 := Lib.hid hb9
          have HSS9 : Hid (Blk w9 k11 #[.int .i64 e.left, .bool e.inn, .bool false, .bool false]) := Lib.hid (by have h : Blk w9 k11 #[.int .i64 e.left, .bool e.inn, .bool e.won, .bool false] := HF9.out.get 3 rfl; rw [HWN.out] at h; exact h)
          rw [HM.out] at HC9
          clear hb9 hc9 c0 c1 HBN' HJ HZJ h31
          obtain ⟨sc, hsc⟩ : ∃ y, e.left - L2 = y := ⟨_, rfl⟩
          have HSC := Lib.hid hsc
          have hwr : wrap64 (e.left - L2) = sc := by rw [← hsc]; have h := HLB.out; exact wrap64_in' ⟨by omega, by omega⟩
          rw [hsc] at HU
          clear hsc
          have c0 : ∀ y : Later w9, y.world.cell? ⟨bb, bo + k, none⟩ = some (.slice wa m wc') := fun y => y.ext.cell HC9.out
          have s0 : ∀ y : Later w9, y.world.cell? ⟨k11, 0, none⟩ = some (.int .i64 e.left) := fun y => (HSS9.out.ext y.ext).cell 0 rfl
          have n0 : ∀ y : Later w9, y.world.cell? ⟨kn, 0, none⟩ = some (.int .i64 L2) := fun y => (HB9.out.ext y.ext).cell 0 rfl
          have cl := lt_of_cell HC9.out
          have sl := HSS9.out.lt
          have nl := HB9.out.lt
          simp only at cl
          go_upto_region 31 with fail
          refine wp_region_later (by kernel_rfl) (by kernel_rfl) ?_
          repeat (go_big_quiet_step (fail))
          refine wpQuiet_nil ?_
          intro w10 hw10
          obtain ⟨⟨w10, hx10⟩, rfl⟩ := hw10
          rw [hwr]
          have HF10 := Lib.hid (HF9.out.ext hx10)
          have HX10 := Lib.hid (HX9.out.trans hx10)
          have HK10 := Lib.hid (HK9.out.ext hx10)
          have HZ10 := Lib.hid (HZ9.out.ext hx10)
          have HS10 := Lib.hid (Nat.le_trans HS9.out hx10.size)
          clear hx10 c0 s0 n0 cl sl nl hwr HC9 HB9 HSS9 HF9 HX9 HK9 HZ9 HS9
          have hbt : Blk w10 k9 #[.int .i64 e.t.legs, .int .i64 e.t.won, .int .i64 e.t.visits, .int .i64 e.t.points, .int .i64 e.t.darts.lo, .int .i64 e.t.darts.hi, .int .i64 e.t.tried.lo, .int .i64 e.t.tried.hi, .int .i64 e.t.tons, .int .i64 e.t.highs, .int .i64 e.t.tops, .int .i64 e.t.best] := HF10.out.get 1 rfl
          have hbn : Blk w10 kn #[.int .i64 L2, .bool I2, .bool W2, .bool false] := HF10.out.get 6 rfl
          have HBT := Lib.hid hbt
          have HBN2 := Lib.hid hbn
          clear hbt hbn
          have t0 := HBT.out.cell 0 (v := .int .i64 e.t.legs) rfl
          have tf0 := HBT.out.frozen 0
          have t1 := HBT.out.cell 1 (v := .int .i64 e.t.won) rfl
          have tf1 := HBT.out.frozen 1
          have t2 := HBT.out.cell 2 (v := .int .i64 e.t.visits) rfl
          have tf2 := HBT.out.frozen 2
          have t3 := HBT.out.cell 3 (v := .int .i64 e.t.points) rfl
          have tf3 := HBT.out.frozen 3
          have t4 := HBT.out.cell 4 (v := .int .i64 e.t.darts.lo) rfl
          have tf4 := HBT.out.frozen 4
          have t5 := HBT.out.cell 5 (v := .int .i64 e.t.darts.hi) rfl
          have tf5 := HBT.out.frozen 5
          have t6 := HBT.out.cell 6 (v := .int .i64 e.t.tried.lo) rfl
          have tf6 := HBT.out.frozen 6
          have t7 := HBT.out.cell 7 (v := .int .i64 e.t.tried.hi) rfl
          have tf7 := HBT.out.frozen 7
          have t8 := HBT.out.cell 8 (v := .int .i64 e.t.tons) rfl
          have tf8 := HBT.out.frozen 8
          have t9 := HBT.out.cell 9 (v := .int .i64 e.t.highs) rfl
          have tf9 := HBT.out.frozen 9
          have t10 := HBT.out.cell 10 (v := .int .i64 e.t.tops) rfl
          have tf10 := HBT.out.frozen 10
          have t11 := HBT.out.cell 11 (v := .int .i64 e.t.best) rfl
          have tf11 := HBT.out.frozen 11
          have tl := HBT.out.lt
          have n2 := HBN2.out.cell 2 (v := .bool W2) rfl
          have nl := HBN2.out.lt
          have HSUM := Lib.hid (ref_Sum e.t ⟨m, m, tried, tried, true⟩ ⟨sc, W2⟩ w10)
          obtain ⟨T', hT'⟩ : ∃ y, sumS e.t ⟨m, m, tried, tried, true⟩ ⟨sc, W2⟩ = y := ⟨_, rfl⟩
          rw [hT'] at HSUM HU
          dsimp only at HSUM
          clear hT'
          go_wp2_with fail
          refine HSUM.out.mono ?_
          rintro r w11 ⟨rfl, hx11⟩
          have HX11 := Lib.hid hx11
          have HBT11 := Lib.hid (HBT.out.ext hx11)
          clear hx11 HSUM t0 tf0 t1 tf1 t2 tf2 t3 tf3 t4 tf4 t5 tf5 t6 tf6 t7 tf7 t8 tf8 t9 tf9 t10 tf10 t11 tf11 tl n2 nl
          have t0 := HBT11.out.cell 0 (v := .int .i64 e.t.legs) rfl
          have tf0 := HBT11.out.frozen 0
          have t1 := HBT11.out.cell 1 (v := .int .i64 e.t.won) rfl
          have tf1 := HBT11.out.frozen 1
          have t2 := HBT11.out.cell 2 (v := .int .i64 e.t.visits) rfl
          have tf2 := HBT11.out.frozen 2
          have t3 := HBT11.out.cell 3 (v := .int .i64 e.t.points) rfl
          have tf3 := HBT11.out.frozen 3
          have t4 := HBT11.out.cell 4 (v := .int .i64 e.t.darts.lo) rfl
          have tf4 := HBT11.out.frozen 4
          have t5 := HBT11.out.cell 5 (v := .int .i64 e.t.darts.hi) rfl
          have tf5 := HBT11.out.frozen 5
          have t6 := HBT11.out.cell 6 (v := .int .i64 e.t.tried.lo) rfl
          have tf6 := HBT11.out.frozen 6
          have t7 := HBT11.out.cell 7 (v := .int .i64 e.t.tried.hi) rfl
          have tf7 := HBT11.out.frozen 7
          have t8 := HBT11.out.cell 8 (v := .int .i64 e.t.tons) rfl
          have tf8 := HBT11.out.frozen 8
          have t9 := HBT11.out.cell 9 (v := .int .i64 e.t.highs) rfl
          have tf9 := HBT11.out.frozen 9
          have t10 := HBT11.out.cell 10 (v := .int .i64 e.t.tops) rfl
          have tf10 := HBT11.out.frozen 10
          have t11 := HBT11.out.cell 11 (v := .int .i64 e.t.best) rfl
          have tf11 := HBT11.out.frozen 11
          have tl := HBT11.out.lt
          go_upto_region 33 with fail
          have hq := twl_set HBT11.out (.int .i64 T'.legs) (.int .i64 T'.won) (.int .i64 T'.visits) (.int .i64 T'.points) (.int .i64 T'.darts.lo) (.int .i64 T'.darts.hi) (.int .i64 T'.tried.lo) (.int .i64 T'.tried.hi) (.int .i64 T'.tons) (.int .i64 T'.highs) (.int .i64 T'.tops) (.int .i64 T'.best)
          have hqc := twl_chg (fun i => i = k9) w11 (b := k9) rfl (.int .i64 T'.legs) (.int .i64 T'.won) (.int .i64 T'.visits) (.int .i64 T'.points) (.int .i64 T'.darts.lo) (.int .i64 T'.darts.hi) (.int .i64 T'.tried.lo) (.int .i64 T'.tried.hi) (.int .i64 T'.tons) (.int .i64 T'.highs) (.int .i64 T'.tops) (.int .i64 T'.best)
          generalize hW12 : World.setCell _ _ _ = w12
          rw [hW12] at hq hqc
          have HF12 := Lib.hid ((HF10.out.ext HX11.out).set 1 rfl hqc (r' := Res.blk k9 #[.int .i64 T'.legs, .int .i64 T'.won, .int .i64 T'.visits, .int .i64 T'.points, .int .i64 T'.darts.lo, .int .i64 T'.darts.hi, .int .i64 T'.tried.lo, .int .i64 T'.tried.hi, .int .i64 T'.tons, .int .i64 T'.highs, .int .i64 T'.tops, .int .i64 T'.best]) hq (fun _ h => .inl h) (Nat.le_trans HS10.out HX11.out.size))
          have HS12 : Hid (lo ≤ w12.heap.size) := Lib.hid (Nat.le_trans (Nat.le_trans HS10.out HX11.out.size) hqc.size)
          have HX12 := Lib.hid (Chg.to_ext (HX10.out.trans HX11.out) hqc (fun i h => by have h1 := (HF10.out.lt 1 rfl k9 rfl).1; have h2 := HB3.out; have h' : i = k9 := h; omega))
          have HK12 := Lib.hid ((HK10.out.ext HX11.out).chg hqc (by have h1 := (HF10.out.lt 1 rfl k9 rfl).1; have h2 := HB3.out; show ¬ B = k9; omega))
          have HZ12 := Lib.hid ((HZ10.out.ext HX11.out).chg hqc (by have h1 := (HF10.out.lt 1 rfl k9 rfl).1; have h2 := HB3.out; show ¬ B + 1 = k9; omega) (by have h1 := (HF10.out.lt 1 rfl k9 rfl).1; have h2 := HB3.out; show ¬ B + 1 + 1 = k9; omega))
          clear hW12 hq hqc t0 tf0 t1 tf1 t2 tf2 t3 tf3 t4 tf4 t5 tf5 t6 tf6 t7 tf7 t8 tf8 t9 tf9 t10 tf10 t11 tf11 tl HF10 HX10 HK10 HZ10 HS10 HBT HBT11 HX11
          have HF13 : Hid (Frm lo [Res.own lo 99 1 (.slice la beds.length lc) beds.length (beds.map (Value.int .i64)), Res.blk k9 #[.int .i64 T'.legs, .int .i64 T'.won, .int .i64 T'.visits, .int .i64 T'.points, .int .i64 T'.darts.lo, .int .i64 T'.darts.hi, .int .i64 T'.tried.lo, .int .i64 T'.tried.hi, .int .i64 T'.tons, .int .i64 T'.highs, .int .i64 T'.tops, .int .i64 T'.best], Res.blk k10 #[.int .i64 start, .int .i64 gin, .int .i64 gout, .slice la beds.length lc, (.slice xa e.scores.length xc), .bool false], Res.blk k11 #[.int .i64 e.left, .bool e.inn, .bool false, .bool false], Res.own lo 3 1 (.slice xa e.scores.length xc) e.scores.length (e.scores.map (Value.int .i64)), Res.none, Res.blk kn #[.int .i64 L2, .bool I2, .bool W2, .bool false]] w12) := Lib.hid (by have h := HF12.out; unfold rxL at h; rw [HWN.out] at h; exact h)
          have hlo : lo ≤ w12.heap.size := HS12.out
          have hsl : e.scores.length ≤ 100 := by have h := HI.out.len; omega
          clear HF12
          refine wp_region_sep (by kernel_rfl) [.no, .val (.slice xa e.scores.length xc), .no, .box 1, .app (e.scores.length + 1), .no, .val (.bool W2), .val (.agg #[.int .i64 L2, .bool I2, .bool W2, .bool false]), .no, .any, .no, .any, .any] lo
            (fun L u => [Res.own lo 99 1 (.slice la beds.length lc) beds.length (beds.map (Value.int .i64)), Res.blk k9 #[.int .i64 T'.legs, .int .i64 T'.won, .int .i64 T'.visits, .int .i64 T'.points, .int .i64 T'.darts.lo, .int .i64 T'.darts.hi, .int .i64 T'.tried.lo, .int .i64 T'.tried.hi, .int .i64 T'.tons, .int .i64 T'.highs, .int .i64 T'.tops, .int .i64 T'.best], Res.blk k10 (bif L 11 then #[.int .i64 start, .int .i64 gin, .int .i64 gout, .slice la beds.length lc, u 4, .bool W2] else bif L 9 then #[.int .i64 start, .int .i64 gin, .int .i64 gout, .slice la beds.length lc, u 4, .bool false] else #[.int .i64 start, .int .i64 gin, .int .i64 gout, .slice la beds.length lc, (.slice xa e.scores.length xc), .bool false]), Res.blk k11 (bif L 12 then #[.int .i64 L2, .bool I2, .bool W2, .bool false] else #[.int .i64 e.left, .bool e.inn, .bool false, .bool false]), bif L 4 then Res.own lo 3 1 (u 4) (e.scores.length + 1) ((e.scores.map (Value.int .i64)) ++ [.int .i64 sc]) else Res.own lo 3 1 (.slice xa e.scores.length xc) e.scores.length (e.scores.map (Value.int .i64)), bif L 3 then Res.own lo 3 1 (u 3) 1 [.int .i64 sc] else Res.none, Res.blk kn #[.int .i64 L2, .bool I2, .bool W2, .bool false]])
            (by kernel_rfl) (Nat.le_of_ble_eq_true rfl) (fun L L' u hh => by simp only [hh 3 rfl, hh 4 rfl, hh 9 rfl, hh 11 rfl, hh 12 rfl]) (fun _ => HF13.out) ?_
          intro T hT hne u hu
          have u1 : u 1 = (.slice xa e.scores.length xc) := hu 1 rfl
          obtain ⟨k3, u3⟩ : ∃ k, u 3 = .slice (some ⟨k, 0, none⟩) 1 1 := hu 3 rfl
          obtain ⟨ra, rc, u4⟩ : ∃ a c, u 4 = .slice a (e.scores.length + 1) c := hu 4 rfl
          have u6 : u 6 = .bool W2 := hu 6 rfl
          have u7 : u 7 = .agg #[.int .i64 L2, .bool I2, .bool W2, .bool false] := hu 7 rfl
          clear hu
          refine lx_next 1 (by rfl) (by decide) ?_
          dsimp only [List.take, List.drop]
          repeat (go_big_quiet_step (fail))
          refine wpQuiet_nil ?_
          refine lx_loud (by rfl) (by kernel_rfl) ?_ (fun K hK => ?_)
          · intro L w3 hL hd hcl hC hs
            obtain ⟨x, rfl⟩ := hC
            have hzs := x.size
            have h9 := hcl.off hL 40 9 (by kernel_rfl)
            have h11 := hcl.off hL 40 11 (by kernel_rfl)
            simp only [h9, h11, cond_false] at hs
            have hcc := (hs.get 2 rfl).cell 4 (v := (.slice xa e.scores.length xc)) rfl
            have hlt := (hs.get 2 rfl).lt
            go_wp2
            exact aft_same x rfl hs (by first | (simp [upd, updv, h9, h11]; done) | (simp [upd, updv, h9, h11, hL]; rfl))
          rw [u1]
          go_simp
          with_reducible refine hK _ ?_
          clear hK K
          refine lx_next 1 (by rfl) (by decide) ?_
          dsimp only [List.take, List.drop]
          repeat (go_big_quiet_step (fail))
          refine wpQuiet_nil ?_
          refine lx_loud (by rfl) (by kernel_rfl) ?_ (fun K hK => ?_)
          · intro L w3 hL hd hcl hC hs
            obtain ⟨x, rfl⟩ := hC
            have hzs := x.size
            simp only [hL, cond_false] at hs
            go_wp2
            exact aft_set x hlo ⟨_, rfl⟩ hs 5 (r' := Res.own lo 3 1 (.slice (some ⟨x.world.heap.size, 0, none⟩) 1 1) 1 [.int .i64 sc]) rfl (((Ext.refl x.world).alloc _).chg _) (own_box (by omega) (by decide) rfl) (fun k hk => .inr (by rw [← own_blk hk]; simp)) (by first | (simp [upd, updv, hL]; done) | (simp [upd, updv, hL]; rfl))
          rw [u3]
          go_simp
          with_reducible refine hK _ ?_
          clear hK K
          refine lx_loud (by rfl) (by kernel_rfl) ?_ (fun K hK => ?_)
          · intro L w3 hL hd hcl hC hs
            obtain ⟨x, rfl⟩ := hC
            have hzs := x.size
            have h9 := hcl.off hL 40 9 (by kernel_rfl)
            have h11 := hcl.off hL 40 11 (by kernel_rfl)
            have h3 := hd 3 (by kernel_rfl)
            simp only [hL, h9, h11, h3, cond_true, cond_false] at hs
            rw [u3] at hs
            refine wp_append_sep rfl _ _ 26 3 _ 1 _ rfl info_int (by kernel_rfl) rfl (by decide) lo _ _ _ rfl (hs.get 4 rfl) lo k3 1 1 _ rfl (hs.get 5 rfl) (fun u hu => by rw [List.mem_singleton.1 hu]; rfl) (by omega) (by decide) (by omega) ?_
            intro v' w4 ho4 hC4 hn4
            obtain ⟨av, ac, rfl⟩ := own_shape ho4
            go_wp2
            exact aft_set x hlo ⟨_, _, rfl⟩ hs 4 rfl hC4 (r' := Res.own lo 3 1 (.slice av _ ac) _ _) ho4 hn4 (by first | (simp [upd, updv, h9, h11, h3, hL, u3]; done) | (simp [upd, updv, h9, h11, h3, hL, u3]; rfl))
          rw [u4]
          go_simp
          with_reducible refine hK _ ?_
          clear hK K
          refine lx_next 1 (by rfl) (by decide) ?_
          dsimp only [List.take, List.drop]
          repeat (go_big_quiet_step (fail))
          refine wpQuiet_nil ?_
          refine lx_loud (by rfl) (by kernel_rfl) ?_ (fun K hK => ?_)
          · intro L w3 hL hd hcl hC hs
            obtain ⟨x, rfl⟩ := hC
            have hzs := x.size
            have hb : Blk x.world kn #[.int .i64 L2, .bool I2, .bool W2, .bool false] := hs.get 6 rfl
            have q2 := hb.cell 2 (v := .bool W2) rfl
            have hlt := hb.lt
            go_wp2
            exact aft_same x rfl hs (by first | rfl | (simp [upd, updv, hL]; done))
          rw [u6]
          go_simp
          with_reducible refine hK _ ?_
          clear hK K
          refine lx_loud (by rfl) (by kernel_rfl) ?_ (fun K hK => ?_)
          · intro L w3 hL hd hcl hC hs
            obtain ⟨x, rfl⟩ := hC
            have hzs := x.size
            have hb : Blk x.world kn #[.int .i64 L2, .bool I2, .bool W2, .bool false] := hs.get 6 rfl
            have q0 := hb.cell 0 (v := .int .i64 L2) rfl
            have q1 := hb.cell 1 (v := .bool I2) rfl
            have q2 := hb.cell 2 (v := .bool W2) rfl
            have q3 := hb.cell 3 (v := .bool false) rfl
            have hlt := hb.lt
            go_wp2
            exact aft_same x rfl hs (by first | rfl | (simp [upd, updv, hL]; done))
          rw [u7]
          go_simp
          with_reducible refine hK _ ?_
          clear hK K
          refine lx_next 1 (by rfl) (by decide) ?_
          dsimp only [List.take, List.drop]
          repeat (go_big_quiet_step (fail))
          refine wpQuiet_nil ?_
          refine lx_loud (by rfl) (by kernel_rfl) ?_ (fun K hK => ?_)
          · intro L w3 hL hd hcl hC hs
            obtain ⟨x, rfl⟩ := hC
            have hzs := x.size
            have h11 := hcl.off hL 40 11 (by kernel_rfl)
            have h4 := hd 4 (by kernel_rfl)
            simp only [hL, h11, h4, cond_true, cond_false] at hs
            have f4 := (hs.get 2 rfl).frozen 4
            have hlt := (hs.get 2 rfl).lt
            have hcc := (hs.get 2 rfl).cell 4 rfl
            go_wp2
            exact aft_store x hlo trivial hs 2 rfl (by first | (simp [upd, updv, h11, h4, hL, u4]; done) | (simp [upd, updv, h11, h4, hL, u4]; rfl))
          go_simp
          with_reducible refine hK _ ?_
          clear hK K
          refine lx_next 1 (by rfl) (by decide) ?_
          dsimp only [List.take, List.drop]
          repeat (go_big_quiet_step (fail))
          refine wpQuiet_nil ?_
          refine lx_loud (by rfl) (by kernel_rfl) ?_ (fun K hK => ?_)
          · intro L w3 hL hd hcl hC hs
            obtain ⟨x, rfl⟩ := hC
            have hzs := x.size
            have h9 := hd 9 (by kernel_rfl)
            simp only [hL, h9, cond_true, cond_false] at hs
            have f5 := (hs.get 2 rfl).frozen 5
            have hlt := (hs.get 2 rfl).lt
            have hcc := (hs.get 2 rfl).cell 5 rfl
            go_wp2
            exact aft_store x hlo trivial hs 2 rfl (by first | (simp [upd, updv, h9, hL]; done) | (simp [upd, updv, h9, hL]; rfl))
          go_simp
          with_reducible refine hK _ ?_
          clear hK K
          refine lx_loud (by rfl) (by kernel_rfl) ?_ (fun K hK => ?_)
          · intro L w3 hL hd hcl hC hs
            obtain ⟨x, rfl⟩ := hC
            have hzs := x.size
            have hb : Blk x.world k11 #[.int .i64 e.left, .bool e.inn, .bool false, .bool false] := by have h := hs.get 3 rfl; rw [hL] at h; exact h
            have hlt := hb.lt
            simp only [hL, cond_false] at hs
            have q0 := hb.cell 0 (v := .int .i64 e.left) rfl
            have f0 := hb.frozen 0
            have q1 := hb.cell 1 (v := .bool e.inn) rfl
            have f1 := hb.frozen 1
            have q2 := hb.cell 2 (v := .bool false) rfl
            have f2 := hb.frozen 2
            have q3 := hb.cell 3 (v := .bool false) rfl
            have f3 := hb.frozen 3
            go_wp2
            exact aft_set x hlo trivial hs 3 rfl (four_chg (fun k => k = k11) _ rfl _ _ _ _ ) (r' := Res.blk k11 #[.int .i64 L2, .bool I2, .bool W2, .bool false]) (four_set hb _ _ _ _ ) (fun _ hk => .inl hk) (by first | (simp [upd, updv, hL]; done) | (simp [upd, updv, hL]; rfl))
          go_simp
          with_reducible refine hK _ ?_
          clear hK K
          refine lx_nil ?_
          intro y hs
          rw [u3, u4] at hs
          have HF14 : Hid (Frm lo [Res.own lo 99 1 (.slice la beds.length lc) beds.length (beds.map (Value.int .i64)), Res.blk k9 #[.int .i64 T'.legs, .int .i64 T'.won, .int .i64 T'.visits, .int .i64 T'.points, .int .i64 T'.darts.lo, .int .i64 T'.darts.hi, .int .i64 T'.tried.lo, .int .i64 T'.tried.hi, .int .i64 T'.tons, .int .i64 T'.highs, .int .i64 T'.tops, .int .i64 T'.best], Res.blk k10 #[.int .i64 start, .int .i64 gin, .int .i64 gout, .slice la beds.length lc, .slice ra (e.scores.length + 1) rc, .bool W2], Res.blk k11 #[.int .i64 L2, .bool I2, .bool W2, .bool false], Res.own lo 3 1 (.slice ra (e.scores.length + 1) rc) (e.scores.length + 1) ((e.scores.map (Value.int .i64)) ++ [.int .i64 sc]), Res.own lo 3 1 (.slice (some ⟨k3, 0, none⟩) 1 1) 1 [.int .i64 sc], Res.blk kn #[.int .i64 L2, .bool I2, .bool W2, .bool false]] y.world) := Lib.hid hs
          have HX14 := Lib.hid (Chg.to_ext HX12.out y.chg (by rintro i ⟨_, h⟩; have h2 := HB3.out; omega))
          have HK14 := Lib.hid (HK12.out.chg y.chg (by rintro ⟨_, h⟩; have h2 := HB3.out; omega))
          have HZ14 := Lib.hid (HZ12.out.chg y.chg (by rintro ⟨_, h⟩; have h2 := HB3.out; omega) (by rintro ⟨_, h⟩; have h2 := HB3.out; omega))
          have HS14 := Lib.hid (Nat.le_trans HS12.out y.size)
          clear hs hT hne u1 u3 u4 u6 u7 hlo hsl HF13 HX12 HK12 HZ12 HS12
          generalize y.world = w14 at *
          clear y T
          go_wp2
          go_roundw
          case rel =>
            refine ⟨k + 1, ⟨T', L2, I2, e.scores ++ [sc], W2⟩, .slice ra (e.scores.length + 1) rc, by go_num, ⟨hlt, ?_, HOK3.out, by simp [HI.out.len], ?_, HS14.out, HK14.out, HZ14.out, HX14.out⟩⟩
            · rw [HI.out.res, HG.out, HM.out, HU.out.2.2]
            · have hl : rxL start gin gout beds la lc k9 k10 k11 lo ⟨T', L2, I2, e.scores ++ [sc], W2⟩ (.slice ra (e.scores.length + 1) rc) = [Res.own lo 99 1 (.slice la beds.length lc) beds.length (beds.map (Value.int .i64)), Res.blk k9 #[.int .i64 T'.legs, .int .i64 T'.won, .int .i64 T'.visits, .int .i64 T'.points, .int .i64 T'.darts.lo, .int .i64 T'.darts.hi, .int .i64 T'.tried.lo, .int .i64 T'.tried.hi, .int .i64 T'.tons, .int .i64 T'.highs, .int .i64 T'.tops, .int .i64 T'.best], Res.blk k10 #[.int .i64 start, .int .i64 gin, .int .i64 gout, .slice la beds.length lc, .slice ra (e.scores.length + 1) rc, .bool W2], Res.blk k11 #[.int .i64 L2, .bool I2, .bool W2, .bool false], Res.own lo 3 1 (.slice ra (e.scores.length + 1) rc) (e.scores.length + 1) ((e.scores.map (Value.int .i64)) ++ [.int .i64 sc]), Res.none] := by simp [rxL]
              rw [hl]
              exact Frm.left (rs' := [Res.blk kn #[.int .i64 L2, .bool I2, .bool W2, .bool false]]) (HF14.out.drop 5)
          case measure => simp [intOf]; omega
    · obtain rfl : k = vs.length := by have := HI.out.le; omega
      have HE9 : Hid (R = .inl e) := Lib.hid (by rw [HI.out.res, List.drop_length]; rfl)
      have HZR := Lib.hid HI.out.zed
      have HNK : Hid (B + 1 + 1 < k9 ∧ B + 1 + 1 < k10) := Lib.hid (by have h1 := (HI.out.frm.lt 1 rfl k9 rfl).1; have h2 := (HI.out.frm.lt 2 rfl k10 rfl).1; have h3 := HB3.out; omega)
      have hbt : Blk w0 k9 #[.int .i64 e.t.legs, .int .i64 e.t.won, .int .i64 e.t.visits, .int .i64 e.t.points, .int .i64 e.t.darts.lo, .int .i64 e.t.darts.hi, .int .i64 e.t.tried.lo, .int .i64 e.t.tried.hi, .int .i64 e.t.tons, .int .i64 e.t.highs, .int .i64 e.t.tops, .int .i64 e.t.best] := HI.out.frm.get 1 rfl
      have hbl : Blk w0 k10 #[.int .i64 start, .int .i64 gin, .int .i64 gout, .slice la beds.length lc, .slice xa e.scores.length xc, .bool e.won] := HI.out.frm.get 2 rfl
      have HBT := Lib.hid hbt
      have HBL := Lib.hid hbl
      clear hbt hbl
      have y0 : ∀ y : Lat (fun b _ => b = (B + 1) ∨ b = (B + 1 + 1)) w0, y.world.cell? ⟨k9, 0, none⟩ = some (.int .i64 e.t.legs) := fun y => (HBT.out.chg y.chg (by have h := HNK.out; rintro ⟨_, e1 | e1⟩ <;> omega)).cell 0 rfl
      have y1 : ∀ y : Lat (fun b _ => b = (B + 1) ∨ b = (B + 1 + 1)) w0, y.world.cell? ⟨k9, 1, none⟩ = some (.int .i64 e.t.won) := fun y => (HBT.out.chg y.chg (by have h := HNK.out; rintro ⟨_, e1 | e1⟩ <;> omega)).cell 1 rfl
      have y2 : ∀ y : Lat (fun b _ => b = (B + 1) ∨ b = (B + 1 + 1)) w0, y.world.cell? ⟨k9, 2, none⟩ = some (.int .i64 e.t.visits) := fun y => (HBT.out.chg y.chg (by have h := HNK.out; rintro ⟨_, e1 | e1⟩ <;> omega)).cell 2 rfl
      have y3 : ∀ y : Lat (fun b _ => b = (B + 1) ∨ b = (B + 1 + 1)) w0, y.world.cell? ⟨k9, 3, none⟩ = some (.int .i64 e.t.points) := fun y => (HBT.out.chg y.chg (by have h := HNK.out; rintro ⟨_, e1 | e1⟩ <;> omega)).cell 3 rfl
      have y4 : ∀ y : Lat (fun b _ => b = (B + 1) ∨ b = (B + 1 + 1)) w0, y.world.cell? ⟨k9, 4, none⟩ = some (.int .i64 e.t.darts.lo) := fun y => (HBT.out.chg y.chg (by have h := HNK.out; rintro ⟨_, e1 | e1⟩ <;> omega)).cell 4 rfl
      have y5 : ∀ y : Lat (fun b _ => b = (B + 1) ∨ b = (B + 1 + 1)) w0, y.world.cell? ⟨k9, 5, none⟩ = some (.int .i64 e.t.darts.hi) := fun y => (HBT.out.chg y.chg (by have h := HNK.out; rintro ⟨_, e1 | e1⟩ <;> omega)).cell 5 rfl
      have y6 : ∀ y : Lat (fun b _ => b = (B + 1) ∨ b = (B + 1 + 1)) w0, y.world.cell? ⟨k9, 6, none⟩ = some (.int .i64 e.t.tried.lo) := fun y => (HBT.out.chg y.chg (by have h := HNK.out; rintro ⟨_, e1 | e1⟩ <;> omega)).cell 6 rfl
      have y7 : ∀ y : Lat (fun b _ => b = (B + 1) ∨ b = (B + 1 + 1)) w0, y.world.cell? ⟨k9, 7, none⟩ = some (.int .i64 e.t.tried.hi) := fun y => (HBT.out.chg y.chg (by have h := HNK.out; rintro ⟨_, e1 | e1⟩ <;> omega)).cell 7 rfl
      have y8 : ∀ y : Lat (fun b _ => b = (B + 1) ∨ b = (B + 1 + 1)) w0, y.world.cell? ⟨k9, 8, none⟩ = some (.int .i64 e.t.tons) := fun y => (HBT.out.chg y.chg (by have h := HNK.out; rintro ⟨_, e1 | e1⟩ <;> omega)).cell 8 rfl
      have y9 : ∀ y : Lat (fun b _ => b = (B + 1) ∨ b = (B + 1 + 1)) w0, y.world.cell? ⟨k9, 9, none⟩ = some (.int .i64 e.t.highs) := fun y => (HBT.out.chg y.chg (by have h := HNK.out; rintro ⟨_, e1 | e1⟩ <;> omega)).cell 9 rfl
      have y10 : ∀ y : Lat (fun b _ => b = (B + 1) ∨ b = (B + 1 + 1)) w0, y.world.cell? ⟨k9, 10, none⟩ = some (.int .i64 e.t.tops) := fun y => (HBT.out.chg y.chg (by have h := HNK.out; rintro ⟨_, e1 | e1⟩ <;> omega)).cell 10 rfl
      have y11 : ∀ y : Lat (fun b _ => b = (B + 1) ∨ b = (B + 1 + 1)) w0, y.world.cell? ⟨k9, 11, none⟩ = some (.int .i64 e.t.best) := fun y => (HBT.out.chg y.chg (by have h := HNK.out; rintro ⟨_, e1 | e1⟩ <;> omega)).cell 11 rfl
      have z0 : ∀ y : Lat (fun b _ => b = (B + 1) ∨ b = (B + 1 + 1)) w0, y.world.cell? ⟨k10, 0, none⟩ = some (.int .i64 start) := fun y => (HBL.out.chg y.chg (by have h := HNK.out; rintro ⟨_, e1 | e1⟩ <;> omega)).cell 0 rfl
      have z1 : ∀ y : Lat (fun b _ => b = (B + 1) ∨ b = (B + 1 + 1)) w0, y.world.cell? ⟨k10, 1, none⟩ = some (.int .i64 gin) := fun y => (HBL.out.chg y.chg (by have h := HNK.out; rintro ⟨_, e1 | e1⟩ <;> omega)).cell 1 rfl
      have z2 : ∀ y : Lat (fun b _ => b = (B + 1) ∨ b = (B + 1 + 1)) w0, y.world.cell? ⟨k10, 2, none⟩ = some (.int .i64 gout) := fun y => (HBL.out.chg y.chg (by have h := HNK.out; rintro ⟨_, e1 | e1⟩ <;> omega)).cell 2 rfl
      have z3 : ∀ y : Lat (fun b _ => b = (B + 1) ∨ b = (B + 1 + 1)) w0, y.world.cell? ⟨k10, 3, none⟩ = some (.slice la beds.length lc) := fun y => (HBL.out.chg y.chg (by have h := HNK.out; rintro ⟨_, e1 | e1⟩ <;> omega)).cell 3 rfl
      have z4 : ∀ y : Lat (fun b _ => b = (B + 1) ∨ b = (B + 1 + 1)) w0, y.world.cell? ⟨k10, 4, none⟩ = some (.slice xa e.scores.length xc) := fun y => (HBL.out.chg y.chg (by have h := HNK.out; rintro ⟨_, e1 | e1⟩ <;> omega)).cell 4 rfl
      have z5 : ∀ y : Lat (fun b _ => b = (B + 1) ∨ b = (B + 1 + 1)) w0, y.world.cell? ⟨k10, 5, none⟩ = some (.bool e.won) := fun y => (HBL.out.chg y.chg (by have h := HNK.out; rintro ⟨_, e1 | e1⟩ <;> omega)).cell 5 rfl
      have yl := HBT.out.lt
      have zl := HBL.out.lt
      go_upto_region 34 with fail
      refine wp_region_lat (by kernel_rfl) (fun b _ => b = (B + 1) ∨ b = (B + 1 + 1)) (fun k => (k == 2) || (k == 3)) (RsIs []) (fun L _ W => LstG (B + 1) (B + 1 + 1) #[.int .i64 e.t.legs, .int .i64 e.t.won, .int .i64 e.t.visits, .int .i64 e.t.points, .int .i64 e.t.darts.lo, .int .i64 e.t.darts.hi, .int .i64 e.t.tried.lo, .int .i64 e.t.tried.hi, .int .i64 e.t.tons, .int .i64 e.t.highs, .int .i64 e.t.tops, .int .i64 e.t.best] #[.int .i64 start, .int .i64 gin, .int .i64 gout, .slice la beds.length lc, .slice xa e.scores.length xc, .bool e.won] (L 2) (L 3) W) (by kernel_rfl)
        (fun k hk => by
          simp only [Bool.or_eq_true, beq_iff_eq] at hk
          rcases hk with rfl | rfl <;> decide)
        (fun L L' u w' h hg => by rw [h 2 rfl, h 3 rfl]; exact hg) (fun L u a b h hx => h.ext hx) (rsW []) (fun k _ => rsW_ok _ k) ((LstG.of (HZR.out)).ext (Ext.refl w0).drew) ?_
      intro T hT hne2 u hu
      refine lx_next 2 (by rfl) (by decide) ?_
      dsimp only [List.take, List.drop]
      repeat (go_big_quiet_step (fail))
      refine wpQuiet_nil ?_
      refine lx_loud (by rfl) (by kernel_rfl) ?_ (fun K hK => ?_)
      · intro L w4 hL hd hcl hC hs
        obtain ⟨y, rfl⟩ := hC
        have D3 := hcl.off hL 40 3 (by kernel_rfl)
        rw [hL, D3] at hs
        have HS := Lib.hid hs
        have HD3 := Lib.hid D3
        have r0 := hs.k6.cell 0 (v := .int .i64 0) rfl
        have rf0 := hs.k6.frozen 0
        have r1 := hs.k6.cell 1 (v := .int .i64 0) rfl
        have rf1 := hs.k6.frozen 1
        have r2 := hs.k6.cell 2 (v := .int .i64 0) rfl
        have rf2 := hs.k6.frozen 2
        have r3 := hs.k6.cell 3 (v := .int .i64 0) rfl
        have rf3 := hs.k6.frozen 3
        have r4 := hs.k6.cell 4 (v := .int .i64 0) rfl
        have rf4 := hs.k6.frozen 4
        have r5 := hs.k6.cell 5 (v := .int .i64 0) rfl
        have rf5 := hs.k6.frozen 5
        have r6 := hs.k6.cell 6 (v := .int .i64 0) rfl
        have rf6 := hs.k6.frozen 6
        have r7 := hs.k6.cell 7 (v := .int .i64 0) rfl
        have rf7 := hs.k6.frozen 7
        have r8 := hs.k6.cell 8 (v := .int .i64 0) rfl
        have rf8 := hs.k6.frozen 8
        have r9 := hs.k6.cell 9 (v := .int .i64 0) rfl
        have rf9 := hs.k6.frozen 9
        have r10 := hs.k6.cell 10 (v := .int .i64 0) rfl
        have rf10 := hs.k6.frozen 10
        have r11 := hs.k6.cell 11 (v := .int .i64 0) rfl
        have rf11 := hs.k6.frozen 11
        have rl := hs.k6.lt
        clear hs hL hd hcl D3
        go_wp2
        have hc := twl_chg (· = B + 1) y.world (b := B + 1) rfl (.int .i64 e.t.legs) (.int .i64 e.t.won) (.int .i64 e.t.visits) (.int .i64 e.t.points) (.int .i64 e.t.darts.lo) (.int .i64 e.t.darts.hi) (.int .i64 e.t.tried.lo) (.int .i64 e.t.tried.hi) (.int .i64 e.t.tons) (.int .i64 e.t.highs) (.int .i64 e.t.tops) (.int .i64 e.t.best)
        exact ⟨trivial, ⟨y.chgd hc (fun b hb => .inr fun _ => .inl hb), rfl⟩, by rw [show upd L 2 2 = true from rfl, show upd L 2 3 = L 3 from rfl, HD3.out]; exact ⟨twl_set HS.out.k6 (.int .i64 e.t.legs) (.int .i64 e.t.won) (.int .i64 e.t.visits) (.int .i64 e.t.points) (.int .i64 e.t.darts.lo) (.int .i64 e.t.darts.hi) (.int .i64 e.t.tried.lo) (.int .i64 e.t.tried.hi) (.int .i64 e.t.tons) (.int .i64 e.t.highs) (.int .i64 e.t.tops) (.int .i64 e.t.best), HS.out.k7.chg hc (fun e => HS.out.ne e.symm), HS.out.ne⟩⟩
      go_simp
      with_reducible refine hK _ ?_
      clear hK K
      refine lx_loud (by rfl) (by kernel_rfl) ?_ (fun K hK => ?_)
      · intro L w4 hL hd hcl hC hs
        obtain ⟨y, rfl⟩ := hC
        have D2 := hd 2 (by kernel_rfl)
        rw [hL, D2] at hs
        have HS := Lib.hid hs
        have HD2 := Lib.hid D2
        have r0 := hs.k7.cell 0 (v := .int .i64 0) rfl
        have rf0 := hs.k7.frozen 0
        have r1 := hs.k7.cell 1 (v := .int .i64 0) rfl
        have rf1 := hs.k7.frozen 1
        have r2 := hs.k7.cell 2 (v := .int .i64 0) rfl
        have rf2 := hs.k7.frozen 2
        have r3 := hs.k7.cell 3 (v := .slice none 0 0) rfl
        have rf3 := hs.k7.frozen 3
        have r4 := hs.k7.cell 4 (v := .slice none 0 0) rfl
        have rf4 := hs.k7.frozen 4
        have r5 := hs.k7.cell 5 (v := .bool false) rfl
        have rf5 := hs.k7.frozen 5
        have rl := hs.k7.lt
        clear hs hL hd hcl D2
        go_wp2
        have hc := six_chg (· = B + 1 + 1) y.world (b := B + 1 + 1) rfl (.int .i64 start) (.int .i64 gin) (.int .i64 gout) (.slice la beds.length lc) (.slice xa e.scores.length xc) (.bool e.won)
        exact ⟨trivial, ⟨y.chgd hc (fun b hb => .inr fun _ => .inr hb), rfl⟩, by rw [show upd L 3 3 = true from rfl, show upd L 3 2 = L 2 from rfl, HD2.out]; exact ⟨HS.out.k6.chg hc HS.out.ne, six_set HS.out.k7 (.int .i64 start) (.int .i64 gin) (.int .i64 gout) (.slice la beds.length lc) (.slice xa e.scores.length xc) (.bool e.won), HS.out.ne⟩⟩
      go_simp
      with_reducible refine hK _ ?_
      clear hK K
      refine lx_next 2 (by rfl) (by decide) ?_
      dsimp only [List.take, List.drop]
      repeat (go_big_quiet_step (fail))
      refine wpQuiet_nil ?_
      refine lx_nil ?_
      intro y hs
      have HS9 : Hid (LstG (B + 1) (B + 1 + 1) #[.int .i64 e.t.legs, .int .i64 e.t.won, .int .i64 e.t.visits, .int .i64 e.t.points, .int .i64 e.t.darts.lo, .int .i64 e.t.darts.hi, .int .i64 e.t.tried.lo, .int .i64 e.t.tried.hi, .int .i64 e.t.tons, .int .i64 e.t.highs, .int .i64 e.t.tops, .int .i64 e.t.best] #[.int .i64 start, .int .i64 gin, .int .i64 gout, .slice la beds.length lc, .slice xa e.scores.length xc, .bool e.won] true true y.world) := Lib.hid hs
      have HC9 : Hid (Chg (fun b => b = (B + 1) ∨ b = (B + 1 + 1)) w0 y.world) := Lib.hid (y.chg.mono (by rintro q - ⟨_, e⟩; exact e))
      clear hs hu hT hne2 y0 y1 y2 y3 y4 y5 y6 y7 y8 y9 y10 y11 z0 z1 z2 z3 z4 z5 yl zl
      generalize y.world = w9 at *
      clear y
      go_wp2
      have q0 := HS9.out.k6.cell 0 (v := .int .i64 e.t.legs) rfl
      have q1 := HS9.out.k6.cell 1 (v := .int .i64 e.t.won) rfl
      have q2 := HS9.out.k6.cell 2 (v := .int .i64 e.t.visits) rfl
      have q3 := HS9.out.k6.cell 3 (v := .int .i64 e.t.points) rfl
      have q4 := HS9.out.k6.cell 4 (v := .int .i64 e.t.darts.lo) rfl
      have q5 := HS9.out.k6.cell 5 (v := .int .i64 e.t.darts.hi) rfl
      have q6 := HS9.out.k6.cell 6 (v := .int .i64 e.t.tried.lo) rfl
      have q7 := HS9.out.k6.cell 7 (v := .int .i64 e.t.tried.hi) rfl
      have q8 := HS9.out.k6.cell 8 (v := .int .i64 e.t.tons) rfl
      have q9 := HS9.out.k6.cell 9 (v := .int .i64 e.t.highs) rfl
      have q10 := HS9.out.k6.cell 10 (v := .int .i64 e.t.tops) rfl
      have q11 := HS9.out.k6.cell 11 (v := .int .i64 e.t.best) rfl
      have p0 := HS9.out.k7.cell 0 (v := .int .i64 start) rfl
      have p1 := HS9.out.k7.cell 1 (v := .int .i64 gin) rfl
      have p2 := HS9.out.k7.cell 2 (v := .int .i64 gout) rfl
      have p3 := HS9.out.k7.cell 3 (v := .slice la beds.length lc) rfl
      have p4 := HS9.out.k7.cell 4 (v := .slice xa e.scores.length xc) rfl
      have p5 := HS9.out.k7.cell 5 (v := .bool e.won) rfl
      refine bodyPost_ret (v := .tuple #[.agg #[.int .i64 e.t.legs, .int .i64 e.t.won, .int .i64 e.t.visits, .int .i64 e.t.points, .int .i64 e.t.darts.lo, .int .i64 e.t.darts.hi, .int .i64 e.t.tried.lo, .int .i64 e.t.tried.hi, .int .i64 e.t.tons, .int .i64 e.t.highs, .int .i64 e.t.tops, .int .i64 e.t.best], .agg #[.int .i64 start, .int .i64 gin, .int .i64 gout, .slice la beds.length lc, .slice xa e.scores.length xc, .bool e.won], .int .i64 0, .int .i64 0]) (by simp [results, Try.results31, go_sem, q0, q1, q2, q3, q4, q5, q6, q7, q8, q9, q10, q11, p0, p1, p2, p3, p4, p5]) rfl ⟨?_, ?_⟩
      · rw [HE9.out]
        refine ⟨la, lc, xa, xc, rfl, ?_, ?_⟩
        · have h0 : OwnD w0 lo (.slice la beds.length lc) beds := HI.out.frm.get 0 rfl
          refine own_mono (own_chg h0 HC9.out (fun q hq e => ?_)) (by have := HB3.out; omega)
          have h1 := (World.ownsRow.lt h0 q hq).1
          have h2 := HB3.out
          rcases e with e | e <;> omega
        · have h0 : OwnI w0 lo (.slice xa e.scores.length xc) e.scores := HI.out.frm.get 4 rfl
          refine own_mono (own_chg h0 HC9.out (fun q hq e => ?_)) (by have := HB3.out; omega)
          have h1 := (World.ownsRow.lt h0 q hq).1
          have h2 := HB3.out
          rcases e with e | e <;> omega
      · exact Chg.to_ext HI.out.ext HC9.out (fun i h => by have h2 := HB3.out; rcases h with h | h <;> omega)
end Go.Proofs.Ytmopadnkjlodnaa
