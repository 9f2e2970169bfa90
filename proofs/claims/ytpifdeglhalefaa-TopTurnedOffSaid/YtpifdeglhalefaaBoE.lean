/-
  Package board: a set of numbers in a map of its own; whether the numbers of a board are valid; Check, open.
-/
import Derived.Test.YtpifdeglhalefaaBoD
import Derived.Maps.RangeWalk
import Derived.Maps.OwnSet
import Derived.Maps.OwnOps
import Derived.WideMake
namespace Go.Proofs.Ytpifdeglhalefaa
open Go.RowKit Go.BigFrame
attribute [local go_sem] Later.cell Later.frozen run_makeMap_plain
abbrev DI := DataW Unit
def kI (x : Int) : Lit := .int .i64 x
theorem wf_i64 {x : Int} (h : I64 x) : (Lit.int .i64 x).wf = true := WalkArith.wf_i64 h
theorem key_i64 {x : Int} (h : I64 x) : keyOf Try.prog 3 (.int .i64 x) = some (kI x) := by
  simp [keyOf, show Try.prog.underlying 3 = some (.int .i64) by kernel_rfl, mapKey, kI, wf_i64 h]
theorem keyed_i : Maps.Keyed Try.prog 3 := Maps.int_keyed (q := .i64) (by kernel_rfl)
theorem isKey_i {x : Int} (h : I64 x) : WideAt.IsKeyLit (kI x) := keyed_i.key (key_i64 h)
theorem under_set : Try.prog.underlying 180 = some (.map 3 4) := by kernel_rfl
theorem under_bool : Try.prog.underlying 4 = some .bool := by kernel_rfl
theorem plainElem_bool_inv {v : Value} {z : DI × List MemPlace} (h : plainElem Try.prog 4 v = some z) : ∃ x, v = .bool x ∧ z = (.lit (.bool x), []) := by
  unfold plainElem at h
  rw [under_bool] at h
  cases v <;> simp at h
  exact ⟨_, rfl, h.symm⟩
/-- Block b is a set of those on a list. -/
def SetB (w : World) (b : Nat) (l : List Int) : Prop := ∃ n, ∃ D : DI, w.ownsMap Try.prog 3 (plainElem Try.prog 4) b n D ∧ n ≤ l.length ∧ Maps.IsMap D ∧ ∀ x, I64 x → D.atKey (kI x) (.lit (.bool false)) = .lit (.bool (l.contains x))
theorem SetB.made (w : World) : SetB (w.alloc (.map #[] 0)) w.heap.size [] := ⟨0, .map [], World.ownsMap_made w _ _ _, Nat.le_refl _, Maps.isMap_empty, fun _ _ => rfl⟩
theorem SetB.lt {w : World} {b : Nat} {l : List Int} (h : SetB w b l) : b < w.heap.size := let ⟨_, _, h, _⟩ := h; World.ownsMap.lt h
theorem SetB.ext {w w' : World} {b : Nat} {l : List Int} (h : SetB w b l) (hx : Ext w w') : SetB w' b l := by
  obtain ⟨n, D, ⟨es, clock, hb, F, h1, h2⟩, h3, h4⟩ := h
  exact ⟨n, D, ⟨es, clock, hx.heap hb, F, h1, h2⟩, h3, h4⟩
theorem zero_bool (w : World) : (zeroValue 4).run Try.prog w = .ok (.bool false) w := by
  first | exact Try.zeroValue4 w | exact Try.zeroValue4 _ | simp [zeroValue, go_sem, show Try.prog.underlying 4 = some .bool by kernel_rfl]
theorem run_seen {w : World} {b : Nat} {l : List Int} (h : SetB w b l) {x : Int} (hx : I64 x) : (Instr.lookup 180 (.map (some b)) (.int .i64 x) false).run Try.prog w = .ok (.bool (l.contains x)) w := by
  obtain ⟨n, D, ho, -, -, hat⟩ := h
  obtain ⟨v, ps, hrun, hv⟩ := ho.lookup keyed_i under_set (zero_bool w) (plainElem_bool under_bool false) (key_i64 hx)
  obtain ⟨c, rfl, hc⟩ := plainElem_bool_inv hv
  rw [hat x hx] at hc
  simp only [Prod.mk.injEq, DataW.lit.injEq, Lit.bool.injEq] at hc
  rw [hrun, hc.1]
theorem wp_add {w : World} {ops : Array Oper} {rest : List Oper} {o : Oper} {a : Act} {Q : Exit → Act → World → Prop} (hg : o.guard = none) (m x v : Operand) (hop : o.op = Op.mapUpdate 180 m x v) (b : Nat) (l : List Int) (p : Int)
    (hm : a.eval m = .map (some b)) (hs : SetB w b l) (hl : l.length ≤ 1000000) (hp : I64 p) (hx : a.eval x = .int .i64 p) (hv : a.eval v = .bool true)
    (hK : ∀ w', SetB w' b (l ++ [p]) → w.grownBy w' (some b) → wpList Try.prog ops Q rest (a.put o.dst undef) w') : wpList Try.prog ops Q (o :: rest) a w := by
  obtain ⟨n, D, ho, hn, hM, hat⟩ := hs
  refine wpList_mapUpdate_own w hg m x v 180 hop 3 4 keyed_i under_set _ b n D hm ho (by unfold maxLen; omega) _ _ (kI p) hx hv (key_i64 hp) _ [] (plainElem_bool under_bool true) fun w' h1 h2 => hK w' ⟨n + 1, _, h1, by simp; omega, hM.put _ _, fun y hy => ?_⟩ h2
  by_cases e : y = p
  · subst e
    rw [Maps.atKey_put_same hM (isKey_i hp)]
    simp
  · rw [Maps.atKey_put_other (by simpa [kI] using e), hat y hy]
    simp [e]
/-- All are good and no two the same. -/
def numsTo (l : List Int) : Bool := l.all (fun n => ins 1 20 [n]) && decide l.Nodup
def numsB (b : Brd) : Bool := numsTo b.nums && decide (b.nums.length = b.lines.length)
theorem numsTo_snoc (l : List Int) (x : Int) : numsTo (l ++ [x]) = (numsTo l && (ins 1 20 [x] && !l.contains x)) := by
  unfold numsTo
  rw [Bool.eq_iff_iff]
  simp only [List.all_append, List.all_cons, List.all_nil, Bool.and_true, Bool.and_eq_true, decide_eq_true_eq, List.nodup_append, List.nodup_cons, List.not_mem_nil, not_false_eq_true, List.nodup_nil, and_true, List.mem_singleton, forall_eq, Bool.not_eq_true', List.contains_eq_mem, decide_eq_false_iff_not]
  constructor
  · rintro ⟨⟨h1, h2⟩, h3, -, h4⟩
    exact ⟨⟨h1, h3⟩, h2, fun hm => h4 x hm rfl⟩
  · rintro ⟨⟨h1, h3⟩, h2, h4⟩
    exact ⟨⟨h1, h2⟩, h3, trivial, fun a ha e => h4 (e ▸ ha)⟩
theorem numsTo_pre : ∀ (l q : List Int), numsTo l = false → numsTo (l ++ q) = false
  | l, [], h => by simpa using h
  | l, x :: q, h => by
    rw [show l ++ x :: q = (l ++ [x]) ++ q by simp]
    exact numsTo_pre _ q (by rw [numsTo_snoc, h, Bool.false_and])
set_option maxHeartbeats 2000000 in
theorem brd_areNumbers (v : BrdV) (b : Brd) (w : World) (h : CellsAt w .i64 v.na b.nums) (hlen : b.nums.length ≤ 1000000) (hlen2 : b.lines.length ≤ 1000000) :
    Calls Try.prog 77 #[.agg (v.cells b)] w fun e w' => e = .returned (.bool (numsB b)) ∧ Ext w w' := by
  obtain ⟨rb, hrb⟩ : ∃ c, numsB b = c := ⟨_, rfl⟩
  rw [hrb]
  have HRB := Lib.hid hrb
  have HN := Lib.hid h
  obtain ⟨eye, bull, rings, lines, nums, wire⟩ := b
  obtain ⟨ra, la, na, rc, lc, nc⟩ := v
  unfold BrdV.cells
  simp only at hlen hlen2 HN ⊢
  clear hrb h
  go_enter Try.func77, Try.ntmps77
  go_upto_region 1 with fail
  obtain ⟨w1, hw1⟩ : ∃ x, x = w.alloc (.cells #[.int .i64 eye, .int .i64 bull, .slice ra rings.length rc, .slice la lines.length lc, .slice na nums.length nc, .int .i64 wire] 27) := ⟨_, rfl⟩
  have hx1 : Ext w w1 := by rw [hw1]; exact (Ext.refl w).alloc _
  have hb1 : Blk w1 w.heap.size #[.int .i64 eye, .int .i64 bull, .slice ra rings.length rc, .slice la lines.length lc, .slice na nums.length nc, .int .i64 wire] := by rw [hw1]; exact Blk.new _ _ _
  rw [← hw1]
  have HX1 := Lib.hid hx1
  have HB1 := Lib.hid hb1
  have m3 := hb1.cell 3 (v := .slice la lines.length lc) rfl
  have m4 := hb1.cell 4 (v := .slice na nums.length nc) rfl
  have hml := hb1.lt
  clear hw1 hx1 hb1
  go_wp2_with fail
  go_loopw [10] (fun i wr => ∃ k : Nat, k ≤ nums.length ∧ i = .int .i64 k ∧ numsTo (nums.take k) = true ∧ SetB wr w1.heap.size (nums.take k) ∧ Ext w1 wr) (fun i _ => nums.length - (intOf i).toNat)
  case atStart => exact ⟨0, Nat.zero_le _, rfl, rfl, SetB.made w1, (Ext.refl w1).alloc _⟩
  case round =>
    obtain ⟨k, hk, rfl, hn, hS, hx⟩ := hrel
    have HNT := Lib.hid hn
    have HS := Lib.hid hS
    have HX := Lib.hid hx
    have hsz := hx.size
    clear hn hS
    replace m3 := hx.cell m3
    replace m4 := hx.cell m4
    replace hml : w.heap.size < wr.heap.size := by omega
    by_cases hlt : k < nums.length
    · obtain ⟨nb, no, rfl, p0⟩ := HN.out k hlt
      replace p0 := hx.cell (HX1.out.cell p0)
      have hbl := lt_of_cell p0
      simp only at hbl
      have hsn := numsTo_snoc (nums.take k) nums[k]
      rw [← List.take_succ_eq_append_getElem hlt, HNT.out, Bool.true_and] at hsn
      have htk := List.take_succ_eq_append_getElem hlt
      have hbad : numsTo (nums.take (k + 1)) = false → rb = false := fun h => by
        rw [← HRB.out]
        have := numsTo_pre (nums.take (k + 1)) (nums.drop (k + 1)) h
        rw [List.take_append_drop] at this
        simp only [numsB, this, Bool.false_and]
      have HSN := Lib.hid hsn
      have HTK := Lib.hid htk
      have HBAD := Lib.hid hbad
      have hlk : (nums.take k).length ≤ 1000000 := by rw [List.length_take]; omega
      have HLK := Lib.hid hlk
      clear hsn htk hbad hlk hx
      generalize nums[k] = x at *
      generalize nums.take k = tk at *
      go_wp2_with fail
      refine (brd_within_1 _ _ _ _ _ (by simp)).mono ?_
      rintro e w2 ⟨rfl, hx2⟩
      have hX2 := HX.out.trans hx2
      have hS2 := HS.out.ext hx2
      cases hin : ins 1 20 [x]
      · have e : rb = false := HBAD.out (by rw [HSN.out, hin]; rfl)
        subst e
        go_wp2
        go_ret
        exact ⟨rfl, HX1.out.trans hX2⟩
      · obtain ⟨x1, x2⟩ := ins_one.1 hin
        have hrun := run_seen hS2 (x := x) ⟨by omega, by omega⟩
        have HS2 := Lib.hid hS2
        have HX2 := Lib.hid hX2
        clear hS2 hX2
        cases hc : tk.contains x
        · rw [hc] at hrun
          have hS3 : numsTo (nums.take (k + 1)) = true := by rw [HSN.out, hin, hc]; rfl
          have HN3 := Lib.hid hS3
          clear hS3
          go_wp2_with (at_mapUpdate; refine wp_add rfl _ _ _ rfl w1.heap.size tk x rfl HS2.out HLK.out ⟨by omega, by omega⟩ rfl rfl ?_)
          intro w3 hS3 hg3
          have hX3 : Ext w1 w3 := Below.grown HX2.out hg3 HX2.out.size (fun j e => by cases e; exact Nat.le_refl _)
          rw [← HTK.out] at hS3
          have HS3 := Lib.hid hS3
          have HX3 := Lib.hid hX3
          clear hg3 hS3 hX3
          go_wp2
          go_roundw
          case rel => exact ⟨k + 1, by omega, by go_num, HN3.out, HS3.out, HX3.out⟩
          case measure => simp [intOf]; omega
        · rw [hc] at hrun
          have e : rb = false := HBAD.out (by rw [HSN.out, hin, hc]; rfl)
          subst e
          go_wp2
          go_ret
          exact ⟨rfl, HX1.out.trans HX2.out⟩
    · have hkn : nums.take k = nums := List.take_of_length_le (by omega)
      have hrb : rb = decide (nums.length = lines.length) := by
        rw [← HRB.out]
        have := HNT.out
        rw [hkn] at this
        simp only [numsB, this, Bool.true_and]
      obtain ⟨d, hd⟩ : ∃ d, ((nums.length : Int) == (lines.length : Int)) = d := ⟨_, rfl⟩
      have e : rb = d := by
        rw [hrb, ← hd, Bool.eq_iff_iff, decide_eq_true_eq, beq_iff_eq]
        omega
      subst e
      have HXX := Lib.hid (HX1.out.trans hx)
      clear hkn hrb hx
      go_wp2
      go_ret
      exact ⟨rfl, HXX.out⟩
end Go.Proofs.Ytpifdeglhalefaa
