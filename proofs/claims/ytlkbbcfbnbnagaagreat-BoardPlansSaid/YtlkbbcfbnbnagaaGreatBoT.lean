/-
  Package board: plans.
-/
import Derived.Test.YtlkbbcfbnbnagaaGreatBoP
import Derived.Sort.CutIn
namespace Go.Proofs.YtlkbbcfbnbnagaaGreat
open Go.RowKit Go.Shelf
attribute [local go_sem] Oper.semAt_some
structure Pl where
  turns : List Int
  worn : List Int
  tv : Value
  wv : Value
def Pl.agg (x : Pl) : Value := .agg #[x.tv, x.wv]
def plansL : List (List Int) → List Int → List Int → List (List Int × List Int)
  | [], t, u => [(t, u)]
  | wk :: rest, t, u => (List.range u.length).flatMap fun (k : Nat) => plansL rest (t ++ [(k : Int)]) (afterL u wk k)
def plOf (x : Pl) : List Int × List Int := (x.turns, x.worn)
structure PlV (S : Nat → Prop) (n m : Nat) (x : Pl) (W : World) : Prop where
  t : RdI S W x.tv x.turns
  w : RdI S W x.wv x.worn
  len : x.worn.length = n
  few : x.turns.length + m ≤ 1000
  big : ∀ y ∈ x.worn, 0 ≤ y ∧ y + 1000000000 * m ≤ 1000000000000
theorem PlV.keep {S : Nat → Prop} {n m : Nat} {x : Pl} {A B : World} (h : PlV S n m x A) (k : Kc S A B) : PlV S n m x B := ⟨h.t.keep k, h.w.keep k, h.len, h.few, h.big⟩
/-- Weeks of n numbers each. -/
def wksOk (n : Nat) (wks : List (List Int)) : Prop := ∀ wk ∈ wks, wk.length = n ∧ ∀ y ∈ wk, 0 ≤ y ∧ y ≤ 1000000000
/-- While one round of plans is under way. -/
structure PlnG (S : Nat → Prop) (Bd k : Nat) (J : List Pl → World → Prop) (pre : List Pl) (turns worn wk : List Int) (wks : List (List Int)) (L : Nat → Bool) (u : Nat → Value) (w : World) : Prop where
  g4 : L 4 = true → ∃ b, u 4 = .slice (some ⟨b, 0, none⟩) 1 1 ∧ Blk w b #[.int .i64 k] ∧ ¬ S b
  g5 : L 5 = true → RdI S w (u 5) (turns ++ [(k : Int)])
  g12 : L 12 = true → RdI S w (u 12) (afterL worn wk k)
  g17 : L 17 = false → J pre w
  g18 : L 17 = true → ∃ xs : List Pl, xs.map plOf = plansL wks (turns ++ [(k : Int)]) (afterL worn wk k) ∧ J (pre ++ xs) w
theorem PlnG.ext {S : Nat → Prop} {Bd k : Nat} {J : List Pl → World → Prop} (hJ : AbidesFrom Bd J) {pre : List Pl} {turns worn wk : List Int} {wks : List (List Int)} {L : Nat → Bool} {u : Nat → Value} {w w' : World} (h : PlnG S Bd k J pre turns worn wk wks L u w) (hx : Ext w w') : PlnG S Bd k J pre turns worn wk wks L u w' :=
  ⟨fun h4 => let ⟨b, e, hb, hs⟩ := h.g4 h4; ⟨b, e, hb.ext hx, hs⟩, fun h5 => (h.g5 h5).keep (.of_ext hx), fun h5 => (h.g12 h5).keep (.of_ext hx), fun h5 => hJ _ _ _ none (h.g17 h5) hx.to_grown (fun r e => by cases e), fun h5 => let ⟨xs, e, hj⟩ := h.g18 h5; ⟨xs, e, hJ _ _ _ none hj hx.to_grown (fun r e => by cases e)⟩⟩
theorem PlnG.congr {S : Nat → Prop} {Bd k : Nat} {J : List Pl → World → Prop} {pre : List Pl} {turns worn wk : List Int} {wks : List (List Int)} {L L' : Nat → Bool} {u u' : Nat → Value} {w : World} (h : PlnG S Bd k J pre turns worn wk wks L u w) (e4 : L' 4 = L 4) (e5 : L' 5 = L 5) (e12 : L' 12 = L 12) (e17 : L' 17 = L 17)
    (u4 : u' 4 = u 4) (u5 : u' 5 = u 5) (u12 : u' 12 = u 12) : PlnG S Bd k J pre turns worn wk wks L' u' w :=
  ⟨by rw [e4, u4]; exact h.g4, by rw [e5, u5]; exact h.g5, by rw [e12, u12]; exact h.g12, by rw [e17]; exact h.g17, by rw [e17]; exact h.g18⟩
def plnNQ (k : Nat) : Bool := k == 4 || (k == 5 || (k == 12 || k == 17))
def plnR (n tn : Nat) (k : Nat) (v : Value) : Prop :=
  (k = 4 → ∃ b, v = .slice (some ⟨b, 0, none⟩) 1 1) ∧ (k = 5 → ∃ g c, v = .slice (some ⟨g, 0, none⟩) (tn + 1) c) ∧ (k = 12 → ∃ g c, v = .slice (some ⟨g, 0, none⟩) n c) ∧ (k = 17 → v = .bool true)
def plnU (n tn : Nat) (k : Nat) : Value := if k = 4 then .slice (some ⟨0, 0, none⟩) 1 1 else if k = 5 then .slice (some ⟨0, 0, none⟩) (tn + 1) 0 else if k = 12 then .slice (some ⟨0, 0, none⟩) n 0 else .bool true
theorem plnU_R (n tn k : Nat) (h : plnNQ k = true) : plnR n tn k (plnU n tn k) := by
  simp only [plnNQ, Bool.or_eq_true, beq_iff_eq] at h
  rcases h with rfl | rfl | rfl | rfl
  · exact ⟨fun _ => ⟨_, rfl⟩, (fun h => by cases h), (fun h => by cases h), (fun h => by cases h)⟩
  · exact ⟨(fun h => by cases h), fun _ => ⟨_, _, rfl⟩, (fun h => by cases h), (fun h => by cases h)⟩
  · exact ⟨(fun h => by cases h), (fun h => by cases h), fun _ => ⟨_, _, rfl⟩, (fun h => by cases h)⟩
  · exact ⟨(fun h => by cases h), (fun h => by cases h), (fun h => by cases h), fun _ => rfl⟩
set_option maxRecDepth 100000 in
set_option maxHeartbeats 4000000 in
theorem brd_plans (l m n Bd : Nat) (S : Nat → Prop) (J : List Pl → World → Prop) (hJ : AbidesFrom Bd J) (hS : ∀ k, S k → k < Bd) (hn : 0 < n ∧ n ≤ 1000)
    (hY : ∀ pre x W1, J pre W1 → PlV S n 0 x W1 → YieldAt Fence.wide m Tryz.prog l #[x.agg] W1 fun e W' => e = .returned (.bool true) ∧ J (pre ++ [x]) W' ∧ Kc S W1 W') :
    ∀ (wks : List (List Int)) (x : Pl) (v : Value) (pre : List Pl) (W : World), Bd ≤ W.heap.size → J pre W → PlV S n wks.length x W → wksOk n wks → WksAt S W v wks →
      Calls Tryz.prog 54 #[x.agg, v, .func (.yield l) #[] #[]] W fun e W' => e = .returned (.bool true) ∧ (∃ xs : List Pl, xs.map plOf = plansL wks x.turns x.worn ∧ J (pre ++ xs) W') ∧ Kc S W W' := by
  intro wks
  induction wks with
  | nil =>
    intro x v pre W hB hj hx hok hv
    obtain ⟨a, c, rfl, -⟩ := hv
    simp only [List.length_nil]
    refine (callsIn_wide (n := m + 1)).1 ?_
    have hb1 : Blk (W.alloc (.cells #[x.tv, x.wv] 78)) W.heap.size #[x.tv, x.wv] := Blk.new _ _ _
    have hx1 : Ext W (W.alloc (.cells #[x.tv, x.wv] 78)) := (Ext.refl W).alloc _
    have hj1 := hJ pre W _ none hj (World.grownBy_alloc W (.cells #[x.tv, x.wv] 78) none) (fun r e => by cases e)
    obtain ⟨f1, t1, a1, b1, hy1, hR1⟩ := hY pre x _ hj1 (hx.keep (.of_ext hx1))
    obtain ⟨turns, worn, tv, wv⟩ := x
    unfold Pl.agg at *
    have c0 := hb1.cell 0 (v := tv) rfl
    have c1 := hb1.cell 1 (v := wv) rfl
    have hK1 := Lib.hid hx1
    clear hb1 hx1 hj1 hj hx hok hY
    refine callsIn_of_wp Tryz.func54 rfl trivial ?_ rfl
    simp only [Tryz.ntmps54, List.size_toArray, List.length_cons, List.length_nil, Nat.reduceAdd, Nat.reduceSub, Array.replicate_succ, Array.replicate_zero, List.push_toArray, List.append_toArray, List.nil_append, List.cons_append]
    gi_wp2
    refine hR1.mono ?_
    rintro e W1 ⟨rfl, hj1, hk1⟩
    gi_wp2
    refine bodyPost_ret (v := .bool true) (by simp [results, Tryz.results54, go_sem]) (by rfl) ⟨rfl, ⟨[⟨turns, worn, tv, wv⟩], rfl, hj1⟩, (Kc.of_ext hK1.out).trans hk1⟩
  | cons wk wks ih =>
    intro x v pre W hB hj hx hok hv
    obtain ⟨kb, ko, kc, ku, rfl, hkc1, hkc2, hkb1, hkb2, hkcell, hku, hrest⟩ := hv.cons
    obtain ⟨ra, hra⟩ : ∃ ra : Option Addr, (if kc = 1 then some (⟨kb, ko, none⟩ : Addr) else some ⟨kb, ko + 1, none⟩) = ra := ⟨_, rfl⟩
    rw [hra] at hrest
    obtain ⟨W1, hW1⟩ : ∃ W1, W1 = W.alloc (.cells #[x.tv, x.wv] 78) := ⟨_, rfl⟩
    have hx1 : Ext W W1 := by rw [hW1]; exact (Ext.refl W).alloc _
    have hb1 : Blk W1 W.heap.size #[x.tv, x.wv] := by rw [hW1]; exact Blk.new _ _ _
    have hj1 := hJ pre W _ none hj hx1.to_grown (fun r e => by cases e)
    have hnS : ¬ S W.heap.size := fun h => by have := hS _ h; omega
    have hsz1 : Bd ≤ W1.heap.size := Nat.le_trans hB hx1.size
    obtain ⟨wb, wo, wc, hwv, hwcells, hwc1, hwc2⟩ := (hx.keep (.of_ext hx1)).w.head (by rw [hx.len]; exact hn.1)
    obtain ⟨ta, tc, htv, htcells, htc1, htc2, htnil⟩ := (hx.keep (.of_ext hx1)).t.cells
    obtain ⟨ub, uo, uc, huv, hucells, huc1, huc2⟩ := (hku.keep (.of_ext hx1)).head (by rw [(hok wk (by simp)).1]; exact hn.1)
    obtain ⟨hwl, hwb⟩ := hok wk (by simp)
    have hlen := hx.len
    have hfew := hx.few
    have hbig := hx.big
    have hT1 := (hx.keep (.of_ext hx1)).t
    have hWv1 := (hx.keep (.of_ext hx1)).w
    have hU1 := hku.keep (.of_ext hx1)
    have hR1 := hrest.keep (.of_ext hx1)
    have hok' : wksOk n wks := fun y hy => hok y (by simp [hy])
    obtain ⟨turns, worn, tv, wv⟩ := x
    simp only at *
    subst hwv
    subst htv
    subst huv
    rw [hlen] at hwc1 hb1 hWv1
    rw [hwl] at huc1 hU1
    obtain ⟨tn, htn⟩ : ∃ tn, turns.length = tn := ⟨_, rfl⟩
    obtain ⟨r, hr⟩ : ∃ r, wks.length = r := ⟨_, rfl⟩
    simp only [List.length_cons] at hfew hbig ⊢
    rw [htn] at htc1 hb1 hT1 hfew htnil
    rw [hr] at hkc1 hfew hbig hR1 ⊢
    rw [hwl] at hkcell
    unfold Pl.agg
    simp only
    rw [htn, hlen] at hW1 ⊢
    have HB1 := Lib.hid hb1
    have HCELL := Lib.hid (fun W' (h : Kc S W1 W') => hkcell W' ((Kc.of_ext hx1).trans h))
    have m0 := hb1.cell 0 (v := .slice ta tn tc) rfl
    have m1 := hb1.cell 1 (v := .slice (some ⟨wb, wo, none⟩) n wc) rfl
    have hX1 := Lib.hid hx1
    have HPL := Lib.hid (show plansL (wk :: wks) turns worn = (List.range n).flatMap fun (k : Nat) => plansL wks (turns ++ [(k : Int)]) (afterL worn wk k) by show (List.range worn.length).flatMap _ = _; rw [hlen])
    have h0' : ((r : Int) + 1 == 0) = false := by simp; omega
    have HIH := Lib.hid ih
    have HJ1 := Lib.hid hj1
    have HJ := Lib.hid hJ
    have HWV := Lib.hid hWv1
    have HTV := Lib.hid hT1
    have HUV := Lib.hid hU1
    have HRV := Lib.hid hR1
    have HOK := Lib.hid hok'
    have HLEN := Lib.hid hlen
    have HWL := Lib.hid hwl
    have HTN := Lib.hid htn
    have HRL := Lib.hid hr
    have HBIG := Lib.hid hbig
    have HWB := Lib.hid hwb
    have HTC := Lib.hid htcells
    have HWC := Lib.hid hwcells
    have HUC := Lib.hid hucells
    have HNIL := Lib.hid htnil
    have HSS := Lib.hid hS
    have HNS := Lib.hid hnS
    have HRA := Lib.hid hra
    clear hb1 hx1 hj1 hj hx hok hY ih hv hrest hkcell hku hlen hbig hT1 hWv1 hU1 hR1 hok' hwl htn hr hwb htcells hwcells hucells htnil hS hnS hra hkb2 hkb1 hJ
    refine (callsIn_wide (n := m + 1)).1 ?_
    refine callsIn_of_wp Tryz.func54 rfl trivial ?_ rfl
    simp only [Tryz.ntmps54, List.size_toArray, List.length_cons, List.length_nil, Nat.reduceAdd, Nat.reduceSub, Array.replicate_succ, Array.replicate_zero, List.push_toArray, List.append_toArray, List.nil_append, List.cons_append]
    gi_wp2
    rw [← hW1]
    have HW1 := Lib.hid hW1
    clear hW1
    gi_loopw [17] (fun i wr => ∃ k : Nat, k ≤ n ∧ i = .int .i64 k ∧ (∃ xs : List Pl, xs.map plOf = (List.range k).flatMap (fun (k : Nat) => plansL wks (turns ++ [(k : Int)]) (afterL worn wk k)) ∧ J (pre ++ xs) wr) ∧ Kc S W1 wr) (fun i _ => n - (intOf i).toNat)
    case atStart => exact ⟨0, Nat.zero_le _, rfl, ⟨[], rfl, by rw [List.append_nil]; exact HJ1.out⟩, Kc.refl _ _⟩
    case round =>
      obtain ⟨k, hk, rfl, ⟨xs0, hxs, hjx⟩, hKc⟩ := hrel
      have HXS := Lib.hid hxs
      have HJX := Lib.hid hjx
      have HKC := Lib.hid hKc
      have hszr := hKc.size
      clear hxs hjx hKc
      by_cases hlt : k < n
      · gi_upto_region 6 with fail
        have HB' := HKC.out.blk HB1.out HNS.out
        have hc0 : ∀ y : Ck S wr, y.world.cell? ⟨W.heap.size, 0, none⟩ = some (.slice ta tn tc) := fun y => (y.kept.blk HB' HNS.out).cell 0 rfl
        have hc1 : ∀ y : Ck S wr, y.world.cell? ⟨W.heap.size, 1, none⟩ = some (.slice (some ⟨wb, wo, none⟩) n wc) := fun y => (y.kept.blk HB' HNS.out).cell 1 rfl
        have hc2 : ∀ y : Ck S wr, y.world.cell? ⟨kb, ko, none⟩ = some (.slice (some ⟨ub, uo, none⟩) n uc) := fun y => HCELL.out y.world (HKC.out.trans y.kept)
        have hsl : ∀ W', (Instr.slice 27 (.slice (some ⟨kb, ko, none⟩) (r + 1) kc) (some (.int .i64 1)) none none).run Tryz.prog W' = .ok (.slice ra r (kc - 1)) W' := by
          intro W'
          rw [← HRA.out]
          simp [Instr.slice, go_sem]
          intro e1
          omega
        have HB2 := Lib.hid HB'
        clear HB'
        refine wpIn_region_ck (by kernel_rfl) S plnNQ (plnR n tn) (PlnG S Bd k J (pre ++ xs0) turns worn wk wks) (by kernel_rfl)
          (fun k hk => by
            simp only [plnNQ, Bool.or_eq_true, beq_iff_eq] at hk
            rcases hk with rfl | rfl | rfl | rfl <;> decide)
          (fun L L' u w' h hg => hg.congr (h 4 rfl) (h 5 rfl) (h 12 rfl) (h 17 rfl) rfl rfl rfl) (fun L u w' w'' hg hx => hg.ext HJ.out hx) (plnU n tn) (fun k hk => plnU_R n tn k hk)
          (PlnG.ext HJ.out ⟨(fun h => by cases h), (fun h => by cases h), (fun h => by cases h), fun _ => HJX.out, (fun h => by cases h)⟩ (Ext.refl wr).drew) ?_
        intro T hT hne u hu
        obtain ⟨b4, e4⟩ := (hu 4 rfl).1 rfl
        obtain ⟨g5, c5, e5⟩ := (hu 5 rfl).2.1 rfl
        obtain ⟨g12, c12, e12⟩ := (hu 12 rfl).2.2.1 rfl
        have e17 := (hu 17 rfl).2.2.2 rfl
        refine lx_next 4 (by rfl) (by decide) ?_
        dsimp only [List.take, List.drop]
        repeat (go_big_quiet_step (with_reducible refine Calls.ck hT (clip_i ta tn tc _ HNIL.out htc1 htc2 HTV.out.addr)))
        refine wpQuiet_nil ?_
        refine lx_loud (by rfl) (by kernel_rfl) ?_ (fun K hK => ?_)
        · intro L w3 h0 hdep hcl hC hG
          obtain ⟨x, rfl⟩ := hC
          have HG := Lib.hid hG
          clear hG
          go_wp2
          refine ⟨⟨(fun _ => ⟨_, rfl⟩), (fun h => by cases h), (fun h => by cases h), (fun h => by cases h)⟩, ⟨⟨_, x.kept.ext ((Ext.refl _).alloc _)⟩, rfl⟩, ?_⟩
          have hG' := HG.out.ext HJ.out ((Ext.refl x.world).alloc (.cells #[.int .i64 k] 3))
          exact ⟨fun _ => ⟨_, rfl, Blk.new _ _ _, fun hs => by have := HSS.out _ hs; have := x.kept.size; omega⟩, hG'.g5, hG'.g12, hG'.g17, hG'.g18⟩
        rw [e4]
        go_simp
        with_reducible refine hK _ ?_
        clear hK K
        refine lx_loud (by rfl) (by kernel_rfl) ?_ (fun K hK => ?_)
        · intro L w3 h0 hdep hcl hC hG
          obtain ⟨x, rfl⟩ := hC
          obtain ⟨b4', e4', hb4, -⟩ := hG.g4 (hdep 4 (by kernel_rfl))
          rw [e4] at e4'
          cases e4'
          have HG := Lib.hid hG
          have HB4 := Lib.hid (hb4.cell 0 (v := .int .i64 k) rfl)
          have hcl1 : CellsAt x.world .i64 ta turns := by
            obtain ⟨ta', tc', ev, hcl1, -⟩ := (HTV.out.keep (HKC.out.trans x.kept)).cells
            cases ev; exact hcl1
          have HCL1 := Lib.hid hcl1
          have hsx := x.kept.size
          clear hG hb4 hcl1 hdep hcl h0
          obtain ⟨i0, hi, hz0, hz1, hz2⟩ := info_parts info_int
          refine wpList_append_grows _ rfl _ _ 24 rfl 3 i0 (.int .i64 0) 1 8 (by kernel_rfl) hi hz0 hz1 hz2 rfl (by decide) ta tn tn (turns.map (Value.int .i64)) rfl (fun h => ⟨(HNIL.out h).1, (HNIL.out h).1⟩) (by simp [HTN.out]) (CellsAt.vals HCL1.out) ⟨b4, 0, none⟩ 1 1 [.int .i64 k] rfl rfl
            (fun j u hj => by cases j with
              | zero => simp at hj; subst hj; rw [addr_add]; exact HB4.out
              | succ j => simp at hj) (fun u hu => by simp at hu; subst hu; rfl) (by omega) (by unfold maxLen; omega) (by omega) ?_
          intro v' w' ho hg
          have hO : OwnI w' x.world.heap.size v' (turns ++ [(k : Int)]) := by
            show w'.ownsRow _ _ _ _ (turns ++ [(k : Int)]).length ((turns ++ [(k : Int)]).map (Value.int .i64))
            rw [List.length_append, List.map_append, HTN.out]; exact ho
          obtain ⟨g', c', rfl, hg1, hg2, hg3, hg4⟩ := own_head hO (by simp)
          have hrd : RdI S w' (.slice (some ⟨g', 0, none⟩) (tn + 1) c') (turns ++ [(k : Int)]) := by
            have := RdI.of_own (S := S) hO (fun k hk hs => by have := HSS.out k hs; omega)
            rwa [List.length_append, HTN.out] at this
          rw [List.length_append, HTN.out]
          have hx' := Ext.of_grown hg
          have hG' := HG.out.ext HJ.out hx'
          have HRD := Lib.hid hrd
          have HX' := Lib.hid hx'
          have HG' := Lib.hid hG'
          clear ho hg hO hrd hx' hG' hi hz0 hz1 hz2
          go_wp2
          exact ⟨⟨(fun h => by cases h), (fun _ => ⟨_, _, rfl⟩), (fun h => by cases h), (fun h => by cases h)⟩, ⟨⟨_, x.kept.ext HX'.out⟩, rfl⟩, HG'.out.g4, fun _ => HRD.out, HG'.out.g12, HG'.out.g17, HG'.out.g18⟩
        rw [e5]
        go_simp
        with_reducible refine hK _ ?_
        clear hK K
        refine lx_next 6 (by rfl) (by decide) ?_
        dsimp only [List.take, List.drop]
        repeat (go_big_quiet_step (fail))
        refine wpQuiet_nil ?_
        refine lx_loud (by rfl) (by kernel_rfl) ?_ (fun K hK => ?_)
        · intro L w3 h0 hdep hcl hC hG
          obtain ⟨x, rfl⟩ := hC
          have HG := Lib.hid hG
          clear hG hdep hcl h0
          have haf := brd_after worn wk wb wo wc ub uo uc k x.world (by
              obtain ⟨a', c', ev, hcl1, -⟩ := (HWV.out.keep (HKC.out.trans x.kept)).cells
              cases ev; exact hcl1) (by
              obtain ⟨a', c', ev, hcl1, -⟩ := (HUV.out.keep (HKC.out.trans x.kept)).cells
              cases ev; exact hcl1) (by rw [HLEN.out, HWL.out]) (by rw [HWL.out]; exact huc1) huc2 (by rw [HWL.out]; exact hlt) (by rw [HWL.out]; exact hn.2)
              (fun y hy => by have := HBIG.out y hy; omega) (fun y hy => by have := HWB.out y hy; omega)
          rw [HLEN.out, HWL.out] at haf
          have HAF := Lib.hid haf
          clear haf
          go_wp2_with fail
          refine HAF.out.mono ?_
          rintro e w4 ⟨v, rfl, hO, hx4⟩
          have hll : (afterL worn wk k).length = n := by
            unfold afterL addL
            rw [List.length_zipWith, turnL_len wk k (by rw [HWL.out]; omega), HLEN.out, HWL.out]; exact Nat.min_self n
          obtain ⟨g', c', rfl, hg1, hg2, hg3, hg4⟩ := own_head hO (by rw [hll]; exact hn.1)
          have hsx := x.kept.size
          have hrd : RdI S w4 (.slice (some ⟨g', 0, none⟩) n c') (afterL worn wk k) := by
            have := RdI.of_own (S := S) hO (fun k hk hs => by have := HSS.out k hs; omega)
            rwa [hll] at this
          rw [hll]
          have HRD := Lib.hid hrd
          have HX' := Lib.hid hx4
          have HG' := Lib.hid (HG.out.ext HJ.out hx4)
          clear hO hrd hx4 hll
          go_wp2
          exact ⟨⟨(fun h => by cases h), (fun h => by cases h), (fun _ => ⟨_, _, rfl⟩), (fun h => by cases h)⟩, ⟨⟨_, x.kept.ext HX'.out⟩, rfl⟩, HG'.out.g4, HG'.out.g5, fun _ => HRD.out, HG'.out.g17, HG'.out.g18⟩
        rw [e12]
        go_simp
        with_reducible refine hK _ ?_
        clear hK K
        refine lx_next 4 (by rfl) (by decide) ?_
        dsimp only [List.take, List.drop]
        repeat (go_big_quiet_step (fail))
        refine wpQuiet_nil ?_
        refine lx_loud (by rfl) (by kernel_rfl) ?_ (fun K hK => ?_)
        · intro L w3 h0 hdep hcl hC hG
          obtain ⟨x, rfl⟩ := hC
          have h13 := hdep 13 (by kernel_rfl)
          have hr5 := hG.g5 (hcl 13 _ 5 rfl h13 (by kernel_rfl))
          have hr12 := hG.g12 (hcl 13 _ 12 rfl h13 (by kernel_rfl))
          rw [e5] at hr5
          rw [e12] at hr12
          have hj17 := hG.g17 h0
          have hsx := x.kept.size
          have hll : (afterL worn wk k).length = n := by
            unfold afterL addL
            rw [List.length_zipWith, turnL_len wk k (by rw [HWL.out]; omega), HLEN.out, HWL.out]; exact Nat.min_self n
          have hbg : ∀ y ∈ afterL worn wk k, 0 ≤ y ∧ y + 1000000000 * (wks.length : Int) ≤ 1000000000000 := by
            intro y hy
            obtain ⟨i, hi, e⟩ := List.getElem_of_mem hy
            unfold afterL addL at hi e
            rw [List.getElem_zipWith] at e
            rw [List.length_zipWith] at hi
            have q1 := HBIG.out _ (List.getElem_mem (l := worn) (n := i) (by omega))
            have q2 := HWB.out _ (turnL_mem wk k _ (List.getElem_mem (l := turnL wk k) (n := i) (by omega)))
            rw [HRL.out]
            omega
          have hcall := HIH.out ⟨turns ++ [(k : Int)], afterL worn wk k, .slice (some ⟨g5, 0, none⟩) (tn + 1) c5, .slice (some ⟨g12, 0, none⟩) n c12⟩ (.slice ra r (kc - 1)) (pre ++ xs0) x.world (by omega) hj17 ⟨hr5, hr12, hll, by rw [List.length_append, HTN.out, HRL.out]; simp; omega, hbg⟩ HOK.out (HRV.out.keep (HKC.out.trans x.kept))
          have HCALL := Lib.hid hcall
          have HG := Lib.hid hG
          clear hcall hG hr5 hr12 hj17 hll hbg h13 hdep hcl h0
          go_wp2_with fail
          refine HCALL.out.mono ?_
          rintro e w4 ⟨rfl, ⟨xs1, hx1, hj1⟩, hkc4⟩
          have HX1' := Lib.hid hx1
          have HJ1' := Lib.hid hj1
          have HKC4 := Lib.hid hkc4
          clear hx1 hj1 hkc4
          go_wp2
          refine ⟨⟨(fun h => by cases h), (fun h => by cases h), (fun h => by cases h), (fun _ => rfl)⟩, ⟨⟨_, x.kept.trans HKC4.out⟩, rfl⟩, ?_, ?_, ?_, ?_, ?_⟩
          · intro h
            obtain ⟨b, q1, q2, q3⟩ := HG.out.g4 h
            exact ⟨b, q1, HKC4.out.blk q2 q3, q3⟩
          · intro h; exact (HG.out.g5 h).keep HKC4.out
          · intro h; exact (HG.out.g12 h).keep HKC4.out
          · intro h; cases h
          · intro _; exact ⟨xs1, HX1'.out, HJ1'.out⟩
        rw [e17]
        go_simp
        with_reducible refine hK _ ?_
        clear hK K
        refine lx_next 1 (by rfl) (by decide) ?_
        dsimp only [List.take, List.drop]
        repeat (go_big_quiet_step (fail))
        refine wpQuiet_nil ?_
        refine lx_nil ?_
        intro x hG
        obtain ⟨xs1, hx1, hj1⟩ := hG.g18 rfl
        have hkc := HKC.out.trans x.kept
        generalize hw3 : x.world = w3 at *
        clear x hw3 hG
        have HX1' := Lib.hid hx1
        have HJ1' := Lib.hid hj1
        have HKC' := Lib.hid hkc
        clear hx1 hj1 hkc hc0 hc1 hc2 hsl
        gi_wp2
        go_roundw
        case rel =>
          refine ⟨k + 1, by omega, by go_num, ⟨xs0 ++ xs1, ?_, by rw [← List.append_assoc]; exact HJ1'.out⟩, HKC'.out⟩
          rw [List.map_append, HXS.out, HX1'.out, List.range_succ, List.flatMap_append]
          simp
        case measure => simp [intOf]; omega
      · obtain rfl : k = n := by omega
        gi_wp2
        refine bodyPost_ret (v := .bool true) (by simp [results, Tryz.results54, go_sem]) (by rfl) ⟨rfl, ⟨xs0, by rw [HPL.out]; exact HXS.out, HJX.out⟩, (Kc.of_ext hX1.out).trans HKC.out⟩
end Go.Proofs.YtlkbbcfbnbnagaaGreat
