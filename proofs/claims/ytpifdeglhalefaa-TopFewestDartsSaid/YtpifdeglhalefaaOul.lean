/-
  Package out: Fewest.
-/
import Derived.Test.YtpifdeglhalefaaOuk
namespace Go.Proofs.Ytpifdeglhalefaa
open Go.RowKit Go.BigFrame
attribute [local go_sem] Oper.semAt_some Later.cell Later.frozen Lat.cell Lat.frozen NoX
/-- Append of a slice that lies elsewhere, inside a fence. -/
theorem wpIn_append_from {P : Program} {F : Fence} {nF : Nat} {w : World} {ops : Array Oper} {rest : List Oper} {o : Oper} {a : Act} {Q : Exit → Act → World → Prop} (hgd : o.guard = none) (s x : Operand) (t e : TypeId) (z : Value) (size bytes : Nat)
    (ho : o.op = .call { callee := .builtin .append, args := #[s, x], argTypes := #[t, t] }) (hinfo : (P.info? e).map (fun i => (i.zero, i.size, i.bytes)) = some (some z, size, bytes)) (ht : P.underlying t = some (.slice e)) (hzs : z.cells.size = size) (hpos : 0 < size)
    (base : Nat) (v : Value) (n : Nat) (xs : List Value) (hs : a.eval s = v) (hown : w.ownsRow base e size v n xs) (ad : Addr) (m c : Nat) (news : List Value) (hx : a.eval x = .slice (some ad) m c)
    (hl : news.length = m * size) (hc : ∀ j u, news[j]? = some u → w.cell? (ad.add j) = some u) (h1 : ∀ u ∈ news, u.oneCell' = true) (hsz : n + m ≤ 1000000000) (hby : bytes ≤ 100000) (hbase : base ≤ w.heap.size)
    (h : ∀ v' w', w'.ownsRow base e size v' (n + m) (xs ++ news) → Chg (fun k => v.ownBlock = some k) w w' → (∀ k, v'.ownBlock = some k → v.ownBlock = some k ∨ (w.heap.size ≤ k ∧ k < w'.heap.size)) → wpListIn F nF P ops Q rest (a.put o.dst v') w') : wpListIn F nF P ops Q (o :: rest) a w := by
  obtain ⟨i0, hi, hz0, hz1, hz2⟩ := info_parts hinfo
  refine wpListIn_append_own_at w hgd s x t ho base e i0 z size bytes ht hi hz0 hz1 hz2 hzs hpos v n xs hs hown ad m c news hx hl hc h1 (by unfold maxLen; omega) ?_ hbase (fun v' w' h1 h2 _ h4 => h v' w' h1 (grown_chg h2) fun k hk => ?_)
  · exact Nat.le_trans (Nat.mul_le_mul (by omega : n + m ≤ 1000000000) hby) (by decide)
  · rcases h4 with h4 | h4
    · exact .inl (h4 ▸ hk)
    · rw [h4] at hk
      cases hk
      exact .inr ⟨Nat.le_refl _, (World.ownsRow.lt h1 _ h4).2⟩
/-- One step of the fewest darts. -/
def fewN (n b : Int) : Int := if n ≠ -1 ∧ (b = -1 ∨ n + 1 < b) then n + 1 else b
theorem fewB_snoc (l : List Int) (t : List (Int × Int)) (p : Int × Int) (b : Int) : fewB l (t ++ [p]) b = fewN (l.getD p.2.toNat 0) (fewB l t b) := by unfold fewB; rw [List.foldl_append]; rfl
theorem fewB_bnd {l : List Int} {m : Int} (hm : 0 ≤ m) (h : ∀ x ∈ l, -1 ≤ x ∧ x ≤ m) : ∀ (t : List (Int × Int)) (b : Int), -1 ≤ b ∧ b ≤ m + 1 → -1 ≤ fewB l t b ∧ fewB l t b ≤ m + 1
  | [], b, hb => hb
  | p :: t, b, hb => by
    have hx : -1 ≤ l.getD p.2.toNat 0 ∧ l.getD p.2.toNat 0 ≤ m := by
      rw [List.getD_eq_getElem?_getD]
      cases hq : l[p.2.toNat]? with
      | none => simp; omega
      | some v => exact h v (List.mem_of_getElem? hq)
    show -1 ≤ fewB l t (fewN (l.getD p.2.toNat 0) b) ∧ _
    refine fewB_bnd hm h t _ ?_
    unfold fewN
    split <;> omega
theorem fewO_bnd (g : Int) (beds : List Int) : ∀ s, ∀ x ∈ fewO g beds s, -1 ≤ x ∧ x ≤ s
  | 0, x, hx => by
    have : x = 0 := by simpa [fewO] using hx
    omega
  | s + 1, x, hx => by
    unfold fewO at hx
    rcases List.mem_append.1 hx with h | h
    · have := fewO_bnd g beds s x h
      push_cast
      omega
    · rw [List.mem_singleton] at h
      have := fewB_bnd (l := fewO g beds s) (m := s) (by omega) (fewO_bnd g beds s) (thwO g beds ((s : Int) + 1)) (-1) (by omega)
      rw [h]
      push_cast
      omega
set_option maxRecDepth 100000 in
set_option maxHeartbeats 8000000 in
theorem out_Fewest (beds : List Int) (la : Option Addr) (lc : Nat) (g : Int) (darts most : Nat) (w : World) (hc : CellsAt w .i64 la beds) (hr : rulO beds g darts = true) (hm : most ≤ 1001) :
    Calls Try.prog 19 #[.agg #[.slice la beds.length lc, .int .i64 g, .int .i64 darts], .int .i64 most] w fun e w' => ∃ v, e = .returned (.tuple #[v, .int .i64 0]) ∧ OwnI w' w.heap.size v (fewO g beds most) ∧ Ext w w' := by
  have hp := (rul_parts hr).2.2.2
  have hv := rul_wrt hr
  have HV := Lib.hid hv
  have HCM := Lib.hid (fun W (hx : Ext w W) => out_checkMost beds la lc g darts most W (hc.ext hx) hr hm)
  have HNB := Lib.hid (fun W (hx : Ext w W) => out_newBoard beds la lc g 0 0 W (hc.ext hx) hv.1 hv.2 (by omega) (by omega))
  clear hr hc hv
  refine (callsIn_wide (n := 8)).1 ?_
  refine callsIn_of_wp_marks Try.func19 rfl trivial ?_ rfl
  simp only [Try.ntmps19, List.size_toArray, List.length_cons, List.length_nil, Nat.reduceAdd, Nat.reduceSub, Array.replicate_succ, Array.replicate_zero, List.push_toArray, List.append_toArray, List.nil_append, List.cons_append]
  gi_upto_region 1 with fail
  obtain ⟨w1, hw1⟩ : ∃ y, y = (w.alloc (.cells #[.slice la beds.length lc, .int .i64 g, .int .i64 darts] 74)).alloc (.cells #[.slice none 0 0] 25) := ⟨_, rfl⟩
  rw [← hw1]
  have HX1 : Hid (Ext w w1) := Lib.hid (by rw [hw1]; exact ((Ext.refl w).alloc _).alloc _)
  have HU1 : Hid (Blk w1 w.heap.size #[.slice la beds.length lc, .int .i64 g, .int .i64 darts]) := Lib.hid (by rw [hw1]; exact (Blk.new w _ _).alloc _)
  have HL1 : Hid (Blk w1 (w.heap.size + 1) #[.slice none 0 0]) := Lib.hid (by rw [hw1]; exact Blk.at _ (by simp))
  have hsz : w1.heap.size = w.heap.size + 2 := by rw [hw1]; simp
  clear hw1
  obtain ⟨U, hU⟩ : ∃ y, y = w.heap.size := ⟨_, rfl⟩
  obtain ⟨K4, hK4⟩ : ∃ y, y = w.heap.size + 1 := ⟨_, rfl⟩
  rw [← hK4, ← hU]
  rw [← hK4] at HL1
  rw [← hU] at HU1
  have HUK := Lib.hid (And.intro hU (And.intro hK4 hsz))
  clear hU hK4 hsz
  have u0 := HU1.out.cell 0 (v := .slice la beds.length lc) rfl
  have u1 := HU1.out.cell 1 (v := .int .i64 g) rfl
  have u2 := HU1.out.cell 2 (v := .int .i64 darts) rfl
  have ul := HU1.out.lt
  gi_wp2_with fail
  refine ⟨trivial, (callsIn_wide.2 (HCM.out _ HX1.out)).mono ?_⟩
  rintro e w2 ⟨rfl, hx2⟩
  have HX2 := Lib.hid (HX1.out.trans hx2)
  have HX12 := Lib.hid hx2
  have u0 := (HU1.out.ext hx2).cell 0 (v := .slice la beds.length lc) rfl
  have u1 := (HU1.out.ext hx2).cell 1 (v := .int .i64 g) rfl
  have ul := (HU1.out.ext hx2).lt
  clear hx2 u2 HCM
  gi_wp2_with fail
  refine ⟨trivial, (callsIn_wide.2 (HNB.out _ HX2.out)).mono ?_⟩
  rintro e w3 ⟨kb, ba, bc, cv, rfl, h1, h2, h3, h4, hx3⟩
  have HKB := Lib.hid (And.intro h1 (And.intro h2 h3))
  have HX3 := Lib.hid (HX2.out.trans hx3)
  have HL3 := Lib.hid ((HL1.out.ext HX12.out).ext hx3)
  have HS3 : Hid (K4 < w2.heap.size ∧ w2.heap.size ≤ w3.heap.size) := Lib.hid ⟨by have h1 := HUK.out; have h2 := HX12.out.size; omega, hx3.size⟩
  clear h1 h2 h3 h4 hx3 u0 u1 ul HNB HL1 HU1
  have c0 := HL3.out.cell 0 (v := .slice none 0 0) rfl
  have cl := HL3.out.lt
  gi_wp2_with (refine wpIn_append_from rfl _ _ 25 3 _ 1 8 rfl info_int (by kernel_rfl) rfl (by decide) w3.heap.size (.slice none 0 0) 0 [] rfl (World.ownsRow_nil _ _ _ _) ⟨w3.heap.size, 0, none⟩ 1 1 [.int .i64 0] rfl rfl ?_ ?_ (by omega) (by omega) (by simp) ?_)
  · intro j' u hj
    match j', hj with
    | 0, hj => cases hj; rw [addr_add]; exact (Blk.new w3 _ _).cell 0 rfl
  · intro u hu
    simp only [List.mem_cons, List.not_mem_nil, or_false] at hu
    rcases hu with rfl
    rfl
  intro v4 w4 hO4 hg4 hn4
  obtain ⟨va, vc, rfl⟩ := own_shape hO4
  have hal : Ext w3 (w3.alloc (.cells #[.int .i64 0] 3)) := (Ext.refl w3).alloc _
  have hx34 : Ext w3 w4 := Chg.to_ext hal hg4 (fun q e => by cases e)
  have HL4 := Lib.hid (HL3.out.ext hx34)
  have HO4 : Hid (OwnI w4 w3.heap.size (.slice va 1 vc) (fewO g beds 0)) := Lib.hid hO4
  have HX34 := Lib.hid hx34
  clear hO4 hg4 hn4 hal hx34 c0 cl
  have c0 := HL4.out.cell 0 (v := .slice none 0 0) rfl
  have cf := HL4.out.frozen 0
  have cl := HL4.out.lt
  gi_wp2
  have hC4 : Chg (· = K4) w4 (w4.setCell ⟨K4, 0, none⟩ (.slice va 1 vc)) := (Chg.refl (· = K4) w4).setCell (.inr (show (fun x => x = K4) K4 from rfl)) _
  obtain ⟨w5, hw5⟩ : ∃ y, y = w4.setCell ⟨K4, 0, none⟩ (.slice va 1 vc) := ⟨_, rfl⟩
  rw [← hw5] at hC4 ⊢
  have HL5 : Hid (Blk w5 K4 #[.slice va 1 vc]) := Lib.hid (by rw [hw5]; exact one_set HL4.out _)
  have HO5 : Hid (OwnI w5 w3.heap.size (.slice va 1 vc) (fewO g beds 0)) := Lib.hid (own_chg HO4.out hC4 (fun q hq e => by have h1 := (World.ownsRow.lt HO4.out q hq).1; have h2 := HS3.out; have h3 : q = K4 := e; omega))
  have HC5 : Hid (Chg (fun q => q = K4 ∨ w3.heap.size ≤ q) w3 w5) := Lib.hid ((HX34.out.chg _).trans (hC4.mono fun q _ e => .inl e))
  clear hw5 hC4 c0 cf cl HL4 HO4 HX34 HL3
  refine wpIn_loop (fun a' W => ∃ (x0 x1 x2 x3 x5 x6 x8 x9 x10 x11 x12 x13 x14 x15 x16 x17 x18 x19 x20 x21 x22 x23 x24 x25 x26 x29 x30 x31 x32 x33 x34 x35 x36 x37 x38 x39 x40 x41 x42 x43 x44 x45 x46 x47 x48 x49 x50 x51 x52 x53 x54 x55 x56 x57 x58 x59 x60 : Value) (k : Nat) (lv : Value) (dsn : List Nat), (k ≤ most ∧ Blk W K4 #[lv] ∧ OwnI W w3.heap.size lv (fewO g beds k) ∧ Chg (fun q => q = K4 ∨ w3.heap.size ≤ q) w3 W ∧ Marks w3.heap.size W dsn) ∧ a' = { tmps := #[x0, x1, x2, x3, .pointer (some ⟨K4, 0, none⟩), x5, x6, .pointer (some ⟨kb, 0, none⟩), x8, x9, x10, x11, x12, x13, x14, x15, x16, x17, x18, x19, x20, x21, x22, x23, x24, x25, x26, .int .i64 most, .int .i64 (k : Nat), x29, x30, x31, x32, x33, x34, x35, x36, x37, x38, x39, x40, x41, x42, x43, x44, x45, x46, x47, x48, x49, x50, x51, x52, x53, x54, x55, x56, x57, x58, x59, x60], defers := dsn.map markOf }) (fun a' _ => most - (intOf (a'.tmps.getD 28 undef)).toNat) ⟨_, _, _, _, _, _, _, _, _, _, _, _, _, _, _, _, _, _, _, _, _, _, _, _, _, _, _, _, _, _, _, _, _, _, _, _, _, _, _, _, _, _, _, _, _, _, _, _, _, _, _, _, _, _, _, _, _, 0, _, [], ⟨Nat.zero_le _, HL5.out, HO5.out, HC5.out, Marks.nil _ _⟩, rfl⟩ ?_
  rintro a' wr ⟨x0, x1, x2, x3, x5, x6, x8, x9, x10, x11, x12, x13, x14, x15, x16, x17, x18, x19, x20, x21, x22, x23, x24, x25, x26, x29, x30, x31, x32, x33, x34, x35, x36, x37, x38, x39, x40, x41, x42, x43, x44, x45, x46, x47, x48, x49, x50, x51, x52, x53, x54, x55, x56, x57, x58, x59, x60, k, lv, dsn, ⟨hk, hl, ho, hch, hmk⟩, rfl⟩
  have HL := Lib.hid hl
  have HO := Lib.hid ho
  have HCH := Lib.hid hch
  have HMK := Lib.hid hmk
  clear hl ho hch hmk HL5 HO5 HC5
  have HBW : Hid (Blk wr kb #[.slice ba beds.length bc, .int .i64 g, cv]) := Lib.hid (HKB.out.2.1.chg HCH.out (by
    have h1 := HKB.out.1; have h2 := HKB.out.2.1.lt; have h3 := HS3.out
    rintro (e | e) <;> omega))
  have HRW : Hid (wr.ownsRow w2.heap.size 124 1 (.slice ba beds.length bc) beds.length (beds.map (Value.int .i64))) := Lib.hid (own_chg HKB.out.2.2 HCH.out (fun q hq => by
    have h1 := World.ownsRow.lt HKB.out.2.2 q hq; have h3 := HS3.out
    rintro (e | e) <;> omega))
  have HWS := Lib.hid HCH.out.size
  dsimp only
  by_cases hlt : k < most
  · have hlt' : (k : Int) < (most : Int) := by omega
    gi_upto_region 10 with fail
    obtain ⟨w6, hw6⟩ : ∃ y, y = wr.alloc (.cells #[.int .i64 (-1)] 3) := ⟨_, rfl⟩
    obtain ⟨K9, hK9⟩ : ∃ y, y = wr.heap.size := ⟨_, rfl⟩
    rw [← hw6, ← hK9]
    have HX6 : Hid (Ext wr w6) := Lib.hid (by rw [hw6]; exact (Ext.refl wr).alloc _)
    have HK9 : Hid (Blk w6 K9 #[.int .i64 (-1)]) := Lib.hid (by rw [hw6, hK9]; exact Blk.new _ _ _)
    have HK9E := Lib.hid hK9
    clear hw6 hK9
    gi_wp2_with fail
    refine ⟨trivial, (callsIn_wide.2 (out_throws kb ((k : Int) + 1) _)).mono ?_⟩
    rintro e w7 ⟨kp, ks, rfl, hkk, hb1, hb2, hx7⟩
    have HX67 := Lib.hid hx7
    have HX7 := Lib.hid (HX6.out.trans hx7)
    have HB9 := Lib.hid (HK9.out.ext hx7)
    have HNN : Hid (kp ≠ K9 ∧ ks ≠ K9 ∧ kb ≠ K9 ∧ K4 ≠ K9 ∧ K9 < w7.heap.size ∧ w3.heap.size ≤ K9 ∧ wr.heap.size ≤ w7.heap.size) := Lib.hid (by
      have h1 := HK9E.out; have h2 := HX6.out.size; have h3 := HBW.out.lt; have h4 := HL.out.lt; have h5 := HK9.out.lt; have h6 := HX67.out.size; have h7 := HWS.out
      omega)
    have HSEQ := Lib.hid (throws_seq (· = K9) 7 kb kp ks g ((k : Int) + 1) cv beds ba bc w7 ⟨HNN.out.2.2.1, HNN.out.1, HNN.out.2.1⟩ (fun q hq => by have h1 := HNN.out; have h2 : q = K9 := hq; omega) (HBW.out.ext HX7.out) hb1 hb2 ((rd_off (own_rd HRW.out (fun _ _ h => h)) (by have := HK9E.out; omega)).keep (Kc.of_ext HX7.out)) HV.out.1 (fun x hx => by
      have h := HV.out.2 x hx
      exact ⟨h.1, ⟨by omega, by omega⟩⟩))
    have HLN : Hid ((fewO g beds k).length = k + 1) := Lib.hid (fewO_len g beds k)
    obtain ⟨lva, lvc, hlv⟩ := own_shape HO.out
    rw [HLN.out] at hlv
    subst hlv
    obtain ⟨lf, hlf⟩ : ∃ y, fewO g beds k = y := ⟨_, rfl⟩
    have HLF := Lib.hid hlf
    have HFS : Hid (fewO g beds (k + 1) = lf ++ [fewB lf (thwO g beds ((k : Int) + 1)) (-1)]) := Lib.hid (by rw [← hlf]; rfl)
    have HBND : Hid (∀ x ∈ lf, -1 ≤ x ∧ x ≤ k) := Lib.hid (by rw [← hlf]; exact fewO_bnd g beds k)
    rw [hlf] at HO HLN
    clear hlf
    have HL7 := Lib.hid (HL.out.ext HX7.out)
    have HO7 : Hid (OwnI w7 w3.heap.size (.slice lva (k + 1) lvc) lf) := Lib.hid (OwnI.ext HO.out HX7.out)
    have HMK7 : Hid (Marks w3.heap.size w7 dsn) := Lib.hid ⟨HMK.out.nodup, fun D hD => ⟨(HMK.out.all D hD).1, HX7.out.heap (HMK.out.all D hD).2⟩⟩
    have HMB : Hid (∀ D ∈ dsn, D < wr.heap.size) := Lib.hid (fun D hD => (Array.getElem?_eq_some_iff.1 (HMK.out.all D hD).2).1)
    clear hkk hb1 hb2 hx7
    gi_wp2
    refine wpIn_rangeFunc_b (α := Int × Int) (by decide) (gf := 70) (fb := #[]) (lb := #[.pointer (some ⟨kp, 0, none⟩), .pointer (some ⟨ks, 0, none⟩)]) rfl enters_throws1 HSEQ.out Kc.trans (fun W l o o' _ h ho _ => Kc.put _ W l o o' h ho) (fun _ => rfl)
      (fun pre W => Blk W K9 #[.int .i64 (fewB lf pre (-1))] ∧ Chg (· = K9) w7 W) ?hI ?hV ?h0
      (fun x a' _ => a' = { tmps := #[x0, x1, x2, x3, .pointer (some ⟨K4, 0, none⟩), x5, x6, .pointer (some ⟨kb, 0, none⟩), .int .i64 (k : Nat), .pointer (some ⟨K9, 0, none⟩), x10, .int .i64 x.2, x12, x13, x14, x15, x16, x17, x18, x19, x20, x21, x22, x23, x24, x25, x26, .int .i64 most, .int .i64 (k : Nat), .bool true, .int .i64 (k : Nat), .pointer (some ⟨kb, 0, none⟩), .int .i64 (k : Nat), .int .i64 ((k : Int) + 1), .func (.func 70) #[] #[.pointer (some ⟨kp, 0, none⟩), .pointer (some ⟨ks, 0, none⟩)], .agg #[.int .i64 x.1], .int .i64 x.2, x37, x38, x39, x40, x41, x42, x43, x44, x45, x46, x47, x48, x49, x50, x51, x52, x53, x54, x55, x56, x57, x58, x59, x60], defers := [] }) ?hAx ?assign ?body ?done
    case hI =>
      rintro pre A C row ⟨h1, h2⟩ hg hr
      have hr2 : ∀ r, row = some r → w7.heap.size ≤ r := fun r e => (hr r e).1
      refine ⟨?_, ⟨hg.os.trans h2.os, hg.tape.trans h2.tape, hg.output.trans h2.output, Nat.le_trans h2.size hg.size, fun q hq hs => (hg.block q (Nat.lt_of_lt_of_le hq h2.size) (fun e => ?_)).trans (h2.block q hq hs)⟩⟩
      · obtain ⟨t, ht⟩ := h1
        exact ⟨t, (hg.block K9 (Array.getElem?_eq_some_iff.1 ht).1 (fun e => by have h3 := hr2 K9 e.symm; have h4 := HNN.out; omega)).trans ht⟩
      · have h3 := hr2 q e.symm
        omega
    case hV => intro pre x u A C row h _ _; exact h
    case h0 => exact ⟨HB9.out, Chg.refl _ _⟩
    case hAx => intro x a' u A C row h _ _; exact h
    case assign =>
      intro l pre x W K hi hv hK
      have HKK := Lib.hid (hK _ W (KeepsFrom.refl _ _) (Kc.refl _ _) hi hv rfl)
      clear hK hi hv
      dsimp only
      gi_wp2
      exact HKK.out
    case body =>
      rintro l pre ⟨xb, xl⟩ a' W ⟨hb9, hc⟩ hv rfl
      obtain ⟨hv1, hv2, hv3, hv4⟩ := thwO_mem hv
      dsimp only at hv1 hv2 hv3 ⊢
      have hwr := HV.out.2 xb hv1
      have hx0 : 0 ≤ xl ∧ xl ≤ (k : Int) := by
        unfold aftB at hv3
        rw [hv2]
        refine ⟨?_, by omega⟩
        split at hv3
        · omega
        · split at hv3
          · omega
          · simp at hv3; omega
      obtain ⟨q, rfl⟩ := Int.eq_ofNat_of_zero_le hx0.1
      have hqn : q < lf.length := by rw [HLN.out]; omega
      have hqn' : (q : Int) < ((k : Int) + 1) := by omega
      have HSN := Lib.hid (fewB_snoc lf pre (xb, (q : Int)) (-1))
      have hgd : lf.getD (q : Int).toNat 0 = lf[q] := by simp [hqn]
      rw [show ((xb, (q : Int)) : Int × Int).2 = (q : Int) from rfl, hgd] at HSN
      have hnb := HBND.out lf[q] (List.getElem_mem hqn)
      have hbb := fewB_bnd (l := lf) (m := k) (by omega) HBND.out pre (-1) (by omega)
      obtain ⟨a2, c2, e2, hcs⟩ := OwnI.cells (own_chg HO7.out hc (fun r hr e => by
        have h1 := (World.ownsRow.lt HO.out r hr).2
        have h2 := HK9E.out
        have h3 : r = K9 := e
        omega) : OwnI W w3.heap.size (.slice lva (k + 1) lvc) lf)
      obtain rfl : lva = a2 := by injection e2
      obtain ⟨fb, fo, rfl, hfc⟩ := hcs q hqn
      obtain ⟨nv, hnv⟩ : ∃ y, lf[q] = y := ⟨_, rfl⟩
      obtain ⟨bv, hbv⟩ : ∃ y, fewB lf pre (-1) = y := ⟨_, rfl⟩
      rw [hnv] at HSN hnb hfc
      rw [hbv] at HSN hbb hb9
      have HC := Lib.hid hc
      have HBV := Lib.hid hb9
      have h4c := (HL7.out.chg hc (show ¬ (fun x => x = K9) K4 from HNN.out.2.2.2.1)).cell 0 (v := .slice (some ⟨fb, fo, none⟩) (k + 1) lvc) rfl
      have l4 := (HL7.out.chg hc (show ¬ (fun x => x = K9) K4 from HNN.out.2.2.2.1)).lt
      have b0 := hb9.cell 0 (v := .int .i64 bv) rfl
      have bf := hb9.frozen 0
      have bl := hb9.lt
      have lf' := lt_of_cell hfc
      simp only at lf'
      have HLT := Lib.hid hlt
      have hw1 : wrap64 (nv + 1) = nv + 1 := wrap64_in' ⟨by omega, by omega⟩
      have HBD := Lib.hid (And.intro hnb hbb)
      clear hc hb9 hv hv1 hv2 hv3 hv4 hwr hx0 hgd hcs e2 HSEQ hnv hbv hnb hbb
      have HSTO : Hid (fewN nv bv = nv + 1 → ∀ W', W' = W.setCell ⟨K9, 0, none⟩ (.int .i64 (nv + 1)) → KeepsFrom w7.heap.size W W' ∧ Kc (· = K9) W W' ∧ Blk W' K9 #[.int .i64 (fewB lf (pre ++ [(xb, (q : Int))]) (-1))] ∧ Chg (· = K9) w7 W') := Lib.hid (fun h W' hW => by
        have hC : Chg (· = K9) W W' := by rw [hW]; exact (Chg.refl (· = K9) W).setCell (.inr (show (fun x => x = K9) K9 from rfl)) _
        exact ⟨kf_chgR hC (by have := HNN.out; omega), Kc.of_chg hC, by rw [HSN.out, h, hW]; exact one_set HBV.out _, HC.out.trans hC⟩)
      have HSAM : Hid (fewN nv bv = bv → KeepsFrom w7.heap.size W W ∧ Kc (· = K9) W W ∧ Blk W K9 #[.int .i64 (fewB lf (pre ++ [(xb, (q : Int))]) (-1))] ∧ Chg (· = K9) w7 W) := Lib.hid (fun h => ⟨KeepsFrom.refl _ _, Kc.refl _ _, by rw [HSN.out, h]; exact HBV.out, HC.out⟩)
      have HFN : Hid (fewN nv bv = if nv ≠ -1 ∧ (bv = -1 ∨ nv + 1 < bv) then nv + 1 else bv) := Lib.hid rfl
      clear HBV HSN HC HBD
      by_cases n1 : nv = -1
      · subst n1
        have HE : Hid (fewN (-1) bv = bv) := Lib.hid (by rw [HFN.out, if_neg (by omega)])
        gi_wp2
        exact HSAM.out HE.out
      · have n1b : (nv == -1) = false := by simpa using n1
        by_cases n2 : bv = -1
        · subst n2
          have HE : Hid (fewN nv (-1) = nv + 1) := Lib.hid (by rw [HFN.out, if_pos (by omega)])
          gi_wp2
          exact HSTO.out HE.out _ rfl
        · have n2b : (bv == -1) = false := by simpa using n2
          by_cases n3 : nv + 1 < bv
          · have HE : Hid (fewN nv bv = nv + 1) := Lib.hid (by rw [HFN.out, if_pos (by omega)])
            gi_wp2
            exact HSTO.out HE.out _ rfl
          · have HE : Hid (fewN nv bv = bv) := Lib.hid (by rw [HFN.out, if_neg (by omega)])
            gi_wp2
            exact HSAM.out HE.out
    case done =>
      rintro Dm xs W hD rfl ⟨hb9, hc⟩ hk2
      obtain ⟨bv, hbv⟩ : ∃ y, fewB lf (thwO g beds ((k : Int) + 1)) (-1) = y := ⟨_, rfl⟩
      rw [hbv] at HFS hb9
      have HB := Lib.hid hb9
      have HL8 := Lib.hid (HL7.out.chg hc (show ¬ (fun x => x = K9) K4 from HNN.out.2.2.2.1))
      have HO8 : Hid (OwnI W w3.heap.size (.slice lva (k + 1) lvc) lf) := Lib.hid (own_chg HO7.out hc (fun r hr e => by
        have h1 := (World.ownsRow.lt HO.out r hr).2
        have h2 := HK9E.out
        have h3 : r = K9 := e
        omega))
      have HC8 : Hid (Chg (fun q => q = K4 ∨ w3.heap.size ≤ q) w3 W) := Lib.hid ((HCH.out.trans (HX7.out.chg _)).trans (hc.mono fun q _ e => .inr (by rw [show q = K9 from e]; exact HNN.out.2.2.2.2.2.1)))
      have HM8 : Hid (Marks w3.heap.size W (Dm :: dsn)) := Lib.hid ((HMK7.out.chg hc (fun D hD e => by have h1 := HMB.out D hD; have h2 := HK9E.out; have h3 : D = K9 := e; omega)).cons (fun h => by have h1 := HMB.out Dm h; have h2 := HNN.out; omega) (by have h2 := HNN.out; have h3 := HWS.out; omega) hk2)
      have HW8 : Hid (w3.heap.size ≤ W.heap.size) := Lib.hid HC8.out.size
      have c0 := HL8.out.cell 0 (v := .slice lva (k + 1) lvc) rfl
      have cl := HL8.out.lt
      have b0 := HB.out.cell 0 (v := .int .i64 bv) rfl
      have bl := HB.out.lt
      have HROW := Lib.hid (own_chg HO8.out (((Ext.refl W).alloc (.cells #[.int .i64 bv] 3)).chg fun _ => False) fun _ _ => id)
      rw [HLN.out] at HROW
      clear hb9 hc hk2 hD hbv HSEQ
      dsimp only
      gi_wp2_with (refine wpIn_append_from rfl _ _ 25 3 _ 1 8 rfl info_int (by kernel_rfl) rfl (by decide) w3.heap.size (.slice lva (k + 1) lvc) (k + 1) _ rfl HROW.out ⟨W.heap.size, 0, none⟩ 1 1 [.int .i64 bv] rfl rfl ?_ ?_ (by omega) (by omega) (by have := HW8.out; simp; omega) ?_)
      · intro j' u hj
        match j', hj with
        | 0, hj => cases hj; rw [addr_add]; exact (Blk.new W _ _).cell 0 rfl
      · intro u hu
        simp only [List.mem_cons, List.not_mem_nil, or_false] at hu
        rcases hu with rfl
        rfl
      intro v9 w9 hO9 hg9 hn9
      obtain ⟨va9, vc9, rfl⟩ := own_shape hO9
      have hal : Ext W (W.alloc (.cells #[.int .i64 bv] 3)) := (Ext.refl W).alloc _
      have hge : ∀ r, (Value.slice lva (k + 1) lvc).ownBlock = some r → w3.heap.size ≤ r := fun r hr => (World.ownsRow.lt HROW.out r hr).1
      have HL9 := Lib.hid ((HL8.out.ext hal).chg hg9 (fun e => by have h1 := hge _ e; have h2 := HS3.out; omega))
      have HO9 : Hid (OwnI w9 w3.heap.size (.slice va9 (k + 1 + 1) vc9) (fewO g beds (k + 1))) := Lib.hid (by
        rw [HFS.out]
        unfold OwnI
        rw [List.length_append, HLN.out, List.map_append]
        exact hO9)
      have HC9 : Hid (Chg (fun q => q = K4 ∨ w3.heap.size ≤ q) w3 w9) := Lib.hid ((HC8.out.trans (hal.chg _)).trans (hg9.mono fun q _ e => .inr (hge q e)))
      have HM9 : Hid (Marks w3.heap.size w9 (Dm :: dsn)) := Lib.hid ⟨HM8.out.nodup, fun D hD => ⟨(HM8.out.all D hD).1, hg9.heap (hal.heap (HM8.out.all D hD).2) (fun e => by
        obtain ⟨_, e1⟩ := own_typeO HROW.out e
        rw [hal.heap (HM8.out.all D hD).2] at e1
        cases e1)⟩⟩
      clear hO9 hg9 hn9 hal hge c0 cl b0 bl
      have c0 := HL9.out.cell 0 (v := .slice lva (k + 1) lvc) rfl
      have cf := HL9.out.frozen 0
      have cl := HL9.out.lt
      gi_wp2
      have hC : Chg (· = K4) w9 (w9.setCell ⟨K4, 0, none⟩ (.slice va9 (k + 1 + 1) vc9)) := (Chg.refl (· = K4) w9).setCell (.inr (show (fun x => x = K4) K4 from rfl)) _
      rw [show ((k : Int) + 1) = ((k + 1 : Nat) : Int) by omega]
      exact ⟨⟨_, _, _, _, _, _, _, _, _, _, _, _, _, _, _, _, _, _, _, _, _, _, _, _, _, _, _, _, _, _, _, _, _, _, _, _, _, _, _, _, _, _, _, _, _, _, _, _, _, _, _, _, _, _, _, _, _, k + 1, _, Dm :: dsn, ⟨by omega, one_set HL9.out _, own_chg HO9.out hC (fun r hr e => by have h1 := (World.ownsRow.lt HO9.out r hr).1; have h2 := HS3.out; have h3 : r = K4 := e; omega), HC9.out.trans (hC.mono fun q _ e => .inl e), HM9.out.chg hC (fun D hD e => by have h1 := (HM9.out.all D hD).1; have h2 := HS3.out; have h3 : D = K4 := e; omega)⟩, rfl⟩, by simp [intOf]; omega⟩
  · obtain rfl : k = most := by omega
    obtain ⟨lva, lvc, rfl⟩ := own_shape HO.out
    have c0 := HL.out.cell 0 (v := .slice lva (fewO g beds k).length lvc) rfl
    have cf := HL.out.frozen 0
    have cl := HL.out.lt
    gi_wp2
    have hC : Chg (· = K4) wr (wr.setCell ⟨K4, 0, none⟩ (.slice lva (fewO g beds k).length lvc)) := (Chg.refl (· = K4) wr).setCell (.inr (show (fun x => x = K4) K4 from rfl)) _
    obtain ⟨w8, hw8⟩ : ∃ y, y = wr.setCell ⟨K4, 0, none⟩ (.slice lva (fewO g beds k).length lvc) := ⟨_, rfl⟩
    rw [← hw8] at hC ⊢
    have HL8 : Hid (Blk w8 K4 #[.slice lva (fewO g beds k).length lvc]) := Lib.hid (by rw [hw8]; exact one_set HL.out _)
    have HO8 : Hid (OwnI w8 w3.heap.size (.slice lva (fewO g beds k).length lvc) (fewO g beds k)) := Lib.hid (own_chg HO.out hC (fun r hr e => by have h1 := (World.ownsRow.lt HO.out r hr).1; have h2 := HS3.out; have h3 : r = K4 := e; omega))
    have HC8 : Hid (Chg (fun q => q = K4 ∨ w3.heap.size ≤ q) w3 w8) := Lib.hid (HCH.out.trans (hC.mono fun q _ e => .inl e))
    have HM8 : Hid (Marks w3.heap.size w8 dsn) := Lib.hid (HMK.out.chg hC (fun D hD e => by have h1 := (HMK.out.all D hD).1; have h2 := HS3.out; have h3 : D = K4 := e; omega))
    clear hw8 hC c0 cf cl
    show LeavesInM _ _ _ _ _ _ (dsn.map markOf) .returning _
    refine ret_mN (v := .tuple #[.slice lva (fewO g beds k).length lvc, .int .i64 0]) (lo := w3.heap.size) (w := w8) dsn w8 .refl HM8.out ?_
    intro W' hsh
    have y0 := hsh.cell (HL8.out.cell 0 (v := .slice lva (fewO g beds k).length lvc) rfl)
    refine ⟨by simp [results, Try.results19, go_sem, y0], _, rfl, ?_, Chg.to_ext HX3.out (hsh.chg HC8.out (Nat.le_refl _)) (fun q e => by have h1 := HX3.out.size; have h2 := HUK.out; rcases e with e | e <;> omega)⟩
    have h9 : OwnI W' w3.heap.size (.slice lva (fewO g beds k).length lvc) (fewO g beds k) := by
      obtain ⟨h1, h2 | ⟨g', cap, cur, e1, h2, h3, h4⟩⟩ := HO8.out
      · exact ⟨h1, .inl h2⟩
      · exact ⟨h1, .inr ⟨g', cap, cur, e1, h2, hsh.heap h3 (by intro e; cases e), h4⟩⟩
    exact own_mono h9 HX3.out.size
end Go.Proofs.Ytpifdeglhalefaa
