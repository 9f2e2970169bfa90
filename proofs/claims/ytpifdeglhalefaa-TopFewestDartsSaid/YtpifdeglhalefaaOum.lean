/-
  Package out: iterators that hand yield on: what is asked of their rounds.
-/
import Derived.Test.YtpifdeglhalefaaOul
namespace Go.Proofs.Ytpifdeglhalefaa
open Go.RowKit Go.BigFrame
attribute [local go_sem] Oper.semAt_some
theorem room_noneO {F : Fence} (hd : F.depth = none) (k : Nat) : F.room k := fun d h => by rw [hd] at h; cases h
theorem RoundIn.anyD {F : Fence} (hd : F.depth = none) {m m' : Nat} {P : Program} {l : Nat} {f : FuncId} {tmps : Array Value} {assign body : Code} {w : World} {R : Ending → World → Prop}
    (h : RoundIn F m P l f tmps assign body w R) : RoundIn F m' P l f tmps assign body w R := ⟨h.1, fun c cs _ => h.2 c cs (room_noneO hd _)⟩
/-- In a fence that asks no depth all depths are one. -/
theorem YieldAt.anyD {F : Fence} (hd : F.depth = none) {m : Nat} (m' : Nat) {P : Program} {l : Nat} {args : Array Value} {W : World} {R : Ending → World → Prop} (h : YieldAt F m P l args W R) : YieldAt F m' P l args W R := by
  obtain ⟨fn, tmps, assign, body, hy, hR⟩ := h
  exact ⟨fn, tmps, assign, body, hy, RoundIn.anyD hd hR⟩
/-- A loop over an iterator, whose body always goes on; what a round may turn (Kp) is asked of the loop's own block alone. -/
theorem wpIn_rangeFunc_c {α : Type} {n : Nat} {P : Program} {g : Operand} {ps : Array Tmp} {assign body : Code} {Q : Exit → Act → World → Prop} {a : Act} {w : World} (h1 : 1 ≤ n) {gf : Nat} {fb lb : Array Value} (hg : a.eval g = .func (.func gf) fb lb) (eg : ∀ args w, (callFunc gf args).run P w = .ok (.enter gf args) w)
    {encs : α → Array Value} {V : List α → α → World → Prop} {Kp : World → World → Prop} {S : List α → Prop} (hseq : SeqB (n - 1) P gf fb lb encs V Kp S w) (hKt : ∀ {A B C : World}, Kp A B → Kp B C → Kp A C)
    (hKb : ∀ (W : World) (o o' : Obj), W.heap[w.heap.size + 1]? = some o → o.isCells = false → o.isWalk = false → Kp W (W.putObj (w.heap.size + 1) o')) (hps : ∀ x, (encs x).size = ps.size)
    (I : List α → World → Prop) (hI : OwnFrom w.heap.size I) (hV : ∀ pre x, OwnFrom w.heap.size (fun (_ : Unit) W => V pre x W)) (h0 : I [] w) (Ax : α → Act → World → Prop) (hAx : ∀ x a', OwnFrom w.heap.size (fun (_ : Unit) W => Ax x a' W))
    (hassign : ∀ (l : Nat) (pre : List α) (x : α) (W : World) (K : Act → World → Prop), I pre W → V pre x W → (∀ a' W', KeepsFrom w.heap.size W W' → Kp W W' → I pre W' → V pre x W' → Ax x a' W' → K a' W') →
      assign.wpIn (Fence.wide.inRound l) (n - 1 - 1) P (Exit.then K (fun _ _ _ => False)) { tmps := (ps.zip (encs x)).foldl (fun t (p, v) => t.setIfInBounds p v) a.tmps, defers := [] } W)
    (hbody : ∀ (l : Nat) (pre : List α) (x : α) (a' : Act) (W : World), I pre W → V pre x W → Ax x a' W → body.wpIn (Fence.wide.inRound l) (n - 1 - 1) P (fun e _ W' => e = .normal ∧ KeepsFrom w.heap.size W W' ∧ Kp W W' ∧ I (pre ++ [x]) W') a' W)
    (hdone : ∀ (D : Nat) (xs : List α) (W : World), w.heap.size ≤ D → S xs → I xs W → W.heap[D]? = some (.deferred (some [])) → Q .normal { a with defers := { target := .collected D, args := #[] } :: a.defers } W) :
    (Code.rangeFunc g ps assign body).wpIn Fence.wide n P Q a w := by
  refine wpIn_rangeFunc fun fn hfn => ?_
  obtain ⟨rec, hrec⟩ : ∃ rec : LoopState → Option Code → Loop, rec = fun st pe => { state := st, pending := pe, fn, tmps := a.tmps, params := ps, assign, body, defers := w.heap.size } := ⟨_, rfl⟩
  obtain ⟨W1, hW1⟩ : ∃ W1, (w.alloc (.deferred (some []))).alloc (.loop (rec .ready none)) = W1 := ⟨_, rfl⟩
  have hx1 : Ext w W1 := by rw [← hW1]; exact ((Ext.refl w).alloc _).alloc _
  have hs1 : W1.heap.size = w.heap.size + 1 + 1 := by rw [← hW1]; simp
  have hL1 : W1.heap[w.heap.size + 1]? = some (.loop (rec .ready none)) := by
    rw [← hW1]; have := World.alloc_heap_new (w.alloc (.deferred (some []))) (.loop (rec .ready none)); rwa [World.size_alloc] at this
  have hD1 : W1.heap[w.heap.size]? = some (.deferred (some [])) := by
    rw [← hW1]; exact (Below.heap_alloc _ _ _ (by simp)).trans (World.alloc_heap_new w _)
  have hI1 : I [] W1 := by rw [← hW1]; exact hI.alloc _ (hI.alloc _ h0)
  -- what stands between two rounds
  obtain ⟨J, hJ⟩ : ∃ J : List α → World → Prop, J = fun pre W => I pre W ∧ W.heap[w.heap.size + 1]? = some (.loop (rec .ready none)) ∧ W.heap[w.heap.size]? = some (.deferred (some [])) := ⟨_, rfl⟩
  have hJa : AbidesFrom W1.heap.size J := by
    rw [hJ]
    rintro s A C row ⟨ha, hb, hc⟩ hg' hr
    have hr' : ∀ r, row = some r → w.heap.size ≤ r ∧ ∃ o : Obj, A.heap[r]? = some o ∧ o.isCells = false := fun r e => by
      obtain ⟨h1, o, h2, h3⟩ := hr r e
      exact ⟨by omega, o, h2, Obj.not_cells_of_walk h3⟩
    exact ⟨hI s A C row ha hg' (hr'), (grownBy_keeps hg' (fun r e => (hr r e).2) hb rfl).trans hb, (grownBy_keeps hg' (fun r e => (hr r e).2) hc rfl).trans hc⟩
  refine ⟨w.heap.size + 1, [{ target := .collected w.heap.size, args := #[] }], W1, { target := .fn (.func gf) lb, args := fb ++ #[.func (.yield (w.heap.size + 1)) #[] #[]] }, W1, gf, fb ++ #[.func (.yield (w.heap.size + 1)) #[] #[]] ++ lb, W1, ?_, ?_, fun _ _ => trivial, ?_, fun _ => h1, ?_⟩
  · change Sem.run P (Instr.enterLoop fn a.tmps ps assign body none) w = _
    rw [← hW1, hrec]; exact run_enterLoop_outer _ _ _ _ _
  · simp only [resolve, hg]
    simp [go_sem]
  · simp [invoke, go_sem, eg]
  refine (hseq (w.heap.size + 1) J W1 hx1 hJa ?_ (by rw [hJ]; exact ⟨hI1, hL1, hD1⟩)).mono ?_
  · intro pre x W hj hv
    rw [hJ] at hj
    obtain ⟨hi, hl, hk⟩ := hj
    have hy := run_yield (P := P) (args := encs x) hl (by rw [hrec]; exact hps x)
    rw [hrec] at hy
    refine ⟨fn, _, assign, body, hy, roundIn_of_wpIn hfn (hassign _ pre x W _ hi hv ?_)⟩
    clear hy
    intro a' Wa hka hpa hia hva hax
    replace hl := hka.same _ _ (by omega) hl rfl
    replace hk := hka.same _ _ (Nat.le_refl _) hk rfl
    have hlt : w.heap.size + 1 < Wa.heap.size := (Array.getElem?_eq_some_iff.1 hl).1
    refine ⟨_, run_beginRound hl (by rw [hrec]), ?_⟩
    obtain ⟨Wb, hWb⟩ : ∃ Wb, Wa.putObj (w.heap.size + 1) (.loop { rec .ready none with state := .busy }) = Wb := ⟨_, rfl⟩
    have hl2 : Wb.heap[w.heap.size + 1]? = some (.loop { rec .ready none with state := .busy }) := by rw [← hWb]; exact World.putObj_heap_same hlt
    have hk2 : Wb.heap[w.heap.size]? = some (.deferred (some [])) := by rw [← hWb]; exact (World.putObj_heap_other (by omega)).trans hk
    have hp2 : Kp Wa Wb := by rw [← hWb]; exact hKb _ _ _ hl rfl rfl
    have hi2 : I pre Wb := by rw [← hWb]; exact hI.putObj _ hia (by omega) hl rfl
    have hv2 : V pre x Wb := by rw [← hWb]; exact (hV pre x).putObj (s := ()) _ hva (by omega) hl rfl
    have ha2 : Ax x a' Wb := by rw [← hWb]; exact (hAx x a').putObj (s := ()) _ hax (by omega) hl rfl
    rw [hWb]
    refine wpIn_mono (hbody _ pre x a' Wb hi2 hv2 ha2) ?_
    rintro e a3 W3 ⟨rfl, hk3, hp3, hi3⟩
    have hl3 := hk3.same _ _ (by omega) hl2 rfl
    have hd3 := hk3.same _ _ (Nat.le_refl _) hk2 rfl
    have hlt3 : w.heap.size + 1 < W3.heap.size := (Array.getElem?_eq_some_iff.1 hl3).1
    have he := run_endRound (P := P) none hl3
    rw [hrec] at he hl3
    refine ⟨_, _, he, rfl, ?_, hKt hpa (hKt hp2 (hKt hp3 (hKb _ _ _ hl3 rfl rfl)))⟩
    rw [hJ]
    refine ⟨hI.putObj _ hi3 (by omega) hl3 rfl, ?_, (World.putObj_heap_other (by omega)).trans hd3⟩
    rw [hrec]
    exact World.putObj_heap_same hlt3
  · rintro e W2 ⟨⟨v, rfl⟩, xs, hS, hj⟩
    rw [hJ] at hj
    obtain ⟨hi, hl, hk⟩ := hj
    exact ⟨none, _, by have := run_endLoop (P := P) hl (by rw [hrec]; simp); rw [hrec] at this; exact this, hdone _ xs _ (Nat.le_refl _) hS (hI.putObj _ hi (by omega) hl rfl) ((World.putObj_heap_other (by omega)).trans hk)⟩
theorem thwO_parts {g s : Int} {beds : List Int} {k : Nat} {x : Int} (h : beds.take (k + 1) = beds.take k ++ [x] ∧ aftB g s x = true) (hs : 0 < s) : ∃ r, thwO g beds s = thwO g (beds.take k) s ++ (x, s - wrt x) :: r := by
  refine ⟨thwO g (beds.drop (k + 1)) s, ?_⟩
  have e : thwO g beds s = thwO g (beds.take (k + 1)) s ++ thwO g (beds.drop (k + 1)) s := by
    unfold thwO
    rw [← List.map_append, ← List.filter_append, List.take_append_drop]
  rw [e, h.1, thwO_snoc, h.2, decide_eq_true hs]
  simp
set_option maxRecDepth 100000 in
set_option maxHeartbeats 4000000 in
theorem throws_seqX (Kp : World → World → Prop) (Fx : World → Prop) (n' : Nat) (B kp ks : Nat) (g s : Int) (v2 : Value) (beds : List Int) (ba : Option Addr) (bc : Nat) (w : World) (hF : ∀ W, Fx W → Blk W B #[.slice ba beds.length bc, .int .i64 g, v2] ∧ Blk W kp #[.pointer (some ⟨B, 0, none⟩)] ∧ Blk W ks #[.int .i64 s] ∧ CellsAt W .i64 ba beds) (hFx : ∀ W W', Fx W → Ext W W' → Fx W') (hFK : ∀ W W', Fx W → Kp W W' → Fx W') (hw : Fx w) (hl : beds.length ≤ 1000) (hi : ∀ x ∈ beds, I64 x ∧ I64 (s - wrt x)) :
    SeqB n' Try.prog 70 #[] #[.pointer (some ⟨kp, 0, none⟩), .pointer (some ⟨ks, 0, none⟩)] (fun p : Int × Int => #[.agg #[.int .i64 p.1], .int .i64 p.2]) (fun q p _ => ∃ r, thwO g beds s = q ++ p :: r) Kp (fun xs => xs = thwO g beds s) w := by
  intro l J W hxw hJ hY h0
  have HFF := Lib.hid hF
  have HFX := Lib.hid hFx
  have HFK := Lib.hid hFK
  have HF0 := Lib.hid (hFx w W hw hxw)
  have HB := Lib.hid (HFF.out W HF0.out).1
  have HKP := Lib.hid (HFF.out W HF0.out).2.1
  have HKS := Lib.hid (HFF.out W HF0.out).2.2.1
  have HY := Lib.hid hY
  have HJ := Lib.hid h0
  have HJA := Lib.hid hJ
  have HI := Lib.hid hi
  clear hY h0 hxw hJ hF hFx hFK hw hi
  refine callsIn_of_wp Try.func70 rfl trivial ?_ rfl
  simp only [Try.ntmps70, List.size_toArray, List.length_cons, List.length_nil, Nat.reduceAdd, Nat.reduceSub, Array.replicate_succ, Array.replicate_zero, List.push_toArray, List.append_toArray, List.nil_append, List.cons_append]
  have b0 := HB.out.cell 0 (v := .slice ba beds.length bc) rfl
  have bl := HB.out.lt
  have p0 := HKP.out.cell 0 (v := .pointer (some ⟨B, 0, none⟩)) rfl
  have pl := HKP.out.lt
  gi_wp2
  gi_loopw [13] (fun i wr => ∃ k : Nat, k ≤ beds.length ∧ i = .int .i64 k ∧ J (thwO g (beds.take k) s) wr ∧ Fx wr) (fun i _ => beds.length - (intOf i).toNat)
  case atStart => exact ⟨0, Nat.zero_le _, rfl, HJ.out, HF0.out⟩
  case round =>
    obtain ⟨k, hk, rfl, hj, hkc⟩ := hrel
    have HJK := Lib.hid hj
    have HKC := Lib.hid hkc
    by_cases hlt : k < beds.length
    · have HRW := Lib.hid (HFF.out wr hkc).2.2.2
      obtain ⟨bb, bo, e, c0⟩ := HRW.out k hlt
      subst e
      have c1 := lt_of_cell c0
      simp only at c1
      have HT := Lib.hid (List.take_succ_eq_append_getElem hlt)
      have hix := HI.out _ (List.getElem_mem hlt)
      have HMX := Lib.hid (List.getElem_mem hlt)
      obtain ⟨x, hx⟩ : ∃ y, beds[k] = y := ⟨_, rfl⟩
      rw [hx] at c0 HT hix HMX
      have HIX := Lib.hid hix
      have hkc0 := hkc
      clear hx hix hj hkc b0 bl p0 pl
      have HBK := Lib.hid (HFF.out wr hkc0).1
      have HPK := Lib.hid (HFF.out wr hkc0).2.1
      have HSK := Lib.hid (HFF.out wr hkc0).2.2.1
      clear hkc0
      gi_upto_region 3 with fail
      obtain ⟨k5, hk5⟩ : ∃ y, y = wr.heap.size := ⟨_, rfl⟩
      obtain ⟨w1, hw1⟩ : ∃ y, y = wr.alloc (.cells #[.int .i64 x] 124) := ⟨_, rfl⟩
      rw [← hw1, ← hk5]
      have hx1 : Ext wr w1 := by rw [hw1]; exact (Ext.refl wr).alloc _
      have HX5 : Hid (Blk w1 k5 #[.int .i64 x]) := Lib.hid (by rw [hw1, hk5]; exact Blk.new _ _ _)
      have HJ1 : Hid (J (thwO g (beds.take k) s) w1) := Lib.hid (HJA.out _ _ _ none HJK.out hx1.to_grown (fun r e => by cases e))
      have HX1 := Lib.hid hx1
      clear hw1 hx1 hk5 c0 c1
      have p0 := (HPK.out.ext HX1.out).cell 0 (v := .pointer (some ⟨B, 0, none⟩)) rfl
      have pl := (HPK.out.ext HX1.out).lt
      have s0 := (HSK.out.ext HX1.out).cell 0 (v := .int .i64 s) rfl
      have sl := (HSK.out.ext HX1.out).lt
      have x0 := HX5.out.cell 0 (v := .int .i64 x) rfl
      have xl := HX5.out.lt
      have HAF := Lib.hid (out_after B (.slice (some ⟨bb, bo, none⟩) beds.length bc) v2 g s x w1 (HBK.out.ext HX1.out) HIX.out.1 HIX.out.2)
      gi_wp2_with fail
      refine ⟨trivial, fun h => (by cases h), (callsIn_wide.2 HAF.out).mono ?_⟩
      rintro e w2 ⟨rfl, hx2⟩
      have HX2 := Lib.hid (HX1.out.trans hx2)
      have HJ2 : Hid (J (thwO g (beds.take k) s) w2) := Lib.hid (HJA.out _ _ _ none HJ1.out hx2.to_grown (fun r e => by cases e))
      have HK2 : Hid (Fx w2) := Lib.hid (HFX.out wr w2 HKC.out HX2.out)
      have s0 := (HSK.out.ext HX2.out).cell 0 (v := .int .i64 s) rfl
      have sl := (HSK.out.ext HX2.out).lt
      have x0 := (HX5.out.ext hx2).cell 0 (v := .int .i64 x) rfl
      have xl := (HX5.out.ext hx2).lt
      have HTW := Lib.hid (thwO_snoc g (beds.take k) x s)
      clear hx2 p0 pl HAF
      obtain ⟨af, haf⟩ : ∃ y, aftB g s x = y := ⟨_, rfl⟩
      have HAB := Lib.hid haf
      rw [haf] at HTW ⊢
      clear haf
      by_cases hs0 : 0 < s
      · cases af
        · gi_wp2
          refine ⟨fun f h => (by cases h), ?_⟩
          gi_wp2
          go_roundw
          case rel => exact ⟨k + 1, by omega, by go_num, by rw [HT.out, HTW.out]; simpa using HJ2.out, HK2.out⟩
          case measure => simp [intOf]; omega
        · obtain ⟨f1, t1, a1', b1', hy1, hR1⟩ := HY.out _ (x, s - wrt x) w2 HJ2.out (thwO_parts ⟨HT.out, HAB.out⟩ hs0)
          dsimp only at hy1
          gi_wp2
          refine ⟨fun h => (by cases h), hR1.mono ?_⟩
          rintro e w3 ⟨rfl, hj3, hk3⟩
          have HJ3 := Lib.hid hj3
          have HK3 := Lib.hid (HFK.out w2 w3 HK2.out hk3)
          clear hj3 hk3 hy1 hR1
          gi_wp2
          go_roundw
          case rel => exact ⟨k + 1, by omega, by go_num, by rw [HT.out, HTW.out, decide_eq_true hs0]; exact HJ3.out, HK3.out⟩
          case measure => simp [intOf]; omega
      · cases af
        · gi_wp2
          refine ⟨fun f h => (by cases h), ?_⟩
          gi_wp2
          go_roundw
          case rel => exact ⟨k + 1, by omega, by go_num, by rw [HT.out, HTW.out]; simpa using HJ2.out, HK2.out⟩
          case measure => simp [intOf]; omega
        · gi_wp2
          refine ⟨fun f h => (by cases h), ?_⟩
          gi_wp2
          go_roundw
          case rel => exact ⟨k + 1, by omega, by go_num, by rw [HT.out, HTW.out, decide_eq_false (by omega)]; simpa using HJ2.out, HK2.out⟩
          case measure => simp [intOf]; omega
    · obtain rfl : beds.length = k := by omega
      have HJ3 := Lib.hid (show J (thwO g beds s) wr by rw [List.take_length] at hj; exact hj)
      clear hj hkc b0 bl p0 pl
      gi_wp2
      refine bodyPost_end (results_none rfl _ _ _) rfl ⟨⟨_, rfl⟩, _, rfl, HJ3.out⟩
end Go.Proofs.Ytpifdeglhalefaa
