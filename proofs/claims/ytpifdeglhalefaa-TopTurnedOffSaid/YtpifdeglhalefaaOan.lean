/-
  The statements' board: armBoard, whose rings' factors come from bytes.
-/
import Derived.Test.YtpifdeglhalefaaOam
import Derived.Test.YtpifdeglhalefaaBoB
import Derived.Test.YtpifdeglhalefaaOug
namespace Go.Proofs.Ytpifdeglhalefaa
open Go.RowKit Go.BigFrame
attribute [local go_sem] Oper.semAt_some Later.cell Later.frozen Lat.cell Lat.frozen NoX
/-- A block of one's own, with its type. -/
def BlkO (W : World) (b : Nat) (t : TypeId) (cs : Array Value) : Prop := W.heap[b]? = some (.cells cs t (0, 0))
theorem BlkO.blk {W : World} {b : Nat} {t : TypeId} {cs : Array Value} (h : BlkO W b t cs) : Blk W b cs := ⟨_, h⟩
theorem BlkO.ext {W W' : World} {b : Nat} {t : TypeId} {cs : Array Value} (h : BlkO W b t cs) (hx : Ext W W') : BlkO W' b t cs := hx.heap h
theorem BlkO.chg {S : Nat → Prop} {W W' : World} {b : Nat} {t : TypeId} {cs : Array Value} (h : BlkO W b t cs) (hx : Chg S W W') (hs : ¬ S b) : BlkO W' b t cs := hx.heap h hs
theorem BlkO.new {W : World} {n : Nat} (t : TypeId) (cs : Array Value) (hn : n = W.heap.size) : BlkO (W.alloc (.cells cs t)) n t cs := by
  subst hn
  exact World.alloc_heap_new _ _
theorem BlkO.alloc {W : World} {b : Nat} {t : TypeId} {cs : Array Value} (h : BlkO W b t cs) (o : Obj) : BlkO (W.alloc o) b t cs := h.ext ((Ext.refl W).alloc o)
theorem Chg.after {S T : Nat → Prop} {a b c : World} (h : Chg S a b) (k : Chg T b c) (hT : ∀ i, i < a.heap.size → T i → S i) : Chg S a c :=
  ⟨k.os.trans h.os, k.tape.trans h.tape, k.output.trans h.output, Nat.le_trans h.size k.size, fun i hi hs => (k.block i (Nat.lt_of_lt_of_le hi h.size) (fun ht => hs (hT i hi ht))).trans (h.block i hi hs)⟩
theorem BlkO.set {W : World} {b : Nat} {t : TypeId} {cs : Array Value} (h : BlkO W b t cs) (j : Nat) (v : Value) : BlkO (W.setCell ⟨b, j, none⟩ v) b t (cs.setIfInBounds j v) := by
  obtain ⟨hlt, he⟩ := Array.getElem?_eq_some_iff.1 h
  unfold BlkO
  simp only [World.setCell]
  rw [Array.getElem?_eq_getElem (by rw [Array.size_modify]; exact hlt), Array.getElem_modify_self, he]
  rfl
theorem BlkO.ne {W : World} {b base : Nat} {t : TypeId} {cs : Array Value} {u : Value} {e : TypeId} {z n : Nat} {ys : List Value} (h : BlkO W b t cs) (hu : W.ownsRow base e z u n ys) (hne : e ≠ t) : ∀ q, u.ownBlock = some q → ¬ q = b := by
  rintro q hq rfl
  obtain ⟨_, e1⟩ := own_typeO hu hq
  unfold BlkO at h
  rw [e1] at h
  injection h with h
  injection h with _ e2 _
  exact hne e2
/-- What a region writes that appends to a list of a struct: the struct's block and blocks of one's own. -/
def ApX (kb n0 b : Nat) (_ : Nat) : Prop := b = kb ∨ n0 ≤ b
theorem apX_not {kb n0 b : Nat} (h1 : b ≠ kb) (h2 : b < n0) (o : Nat) : ¬ ApX kb n0 b o := by
  rintro (h | h)
  · exact h1 h
  · omega
/-- What is known while a pair is appended to a list of a struct (operations: ib the pair, ic the append, id the store). -/
structure GAp (kb : Nat) (t : TypeId) (cs : Value → Array Value) (base : Nat) (e : TypeId) (n : Nat) (v0 : Value) (xs : List Value) (x0 x1 : Value) (ib ic id : Nat) (L : Nat → Bool) (u : Nat → Value) (W : World) : Prop where
  brd : BlkO W kb t (cs (bif L id then u ic else v0))
  row : L ic = false → W.ownsRow base e 2 v0 n xs
  box : L ib = true → L ic = false → ∃ b, u ib = .slice (some ⟨b, 0, none⟩) 1 1 ∧ Blk W b #[x0, x1]
  row' : L ic = true → W.ownsRow base e 2 (u ic) (n + 1) (xs ++ [x0, x1])
theorem GAp.congr {kb : Nat} {t : TypeId} {cs : Value → Array Value} {base : Nat} {e : TypeId} {n : Nat} {v0 : Value} {xs : List Value} {x0 x1 : Value} {ib ic id : Nat} {L L' : Nat → Bool} {u u' : Nat → Value} {W : World} (h : GAp kb t cs base e n v0 xs x0 x1 ib ic id L u W) (h1 : L' ib = L ib) (h2 : L' ic = L ic) (h3 : L' id = L id) (h4 : u' ib = u ib) (h5 : u' ic = u ic) : GAp kb t cs base e n v0 xs x0 x1 ib ic id L' u' W :=
  ⟨by rw [h3, h5]; exact h.brd, by rw [h2]; exact h.row, by rw [h1, h2, h4]; exact h.box, by rw [h2, h5]; exact h.row'⟩
theorem GAp.ext {kb : Nat} {t : TypeId} {cs : Value → Array Value} {base : Nat} {e : TypeId} {n : Nat} {v0 : Value} {xs : List Value} {x0 x1 : Value} {ib ic id : Nat} {L : Nat → Bool} {u : Nat → Value} {W W' : World} (h : GAp kb t cs base e n v0 xs x0 x1 ib ic id L u W) (hx : Ext W W') : GAp kb t cs base e n v0 xs x0 x1 ib ic id L u W' :=
  ⟨h.brd.ext hx, fun q => own_chg (h.row q) (hx.chg fun _ => False) fun _ _ => fun a => a, fun q r => let ⟨b, h1, h2⟩ := h.box q r; ⟨b, h1, h2.ext hx⟩, fun q => own_chg (h.row' q) (hx.chg fun _ => False) fun _ _ => fun a => a⟩
def RAp (n : Nat) (v0 : Value) (ia ib ic k : Nat) (v : Value) : Prop := (k = ia → v = v0) ∧ (k = ib → ∃ b, v = .slice (some ⟨b, 0, none⟩) 1 1) ∧ (k = ic → ∃ a c, v = .slice a (n + 1) c)
def wAp (n : Nat) (v0 : Value) (ia ib k : Nat) : Value := if k = ia then v0 else if k = ib then .slice (some ⟨0, 0, none⟩) 1 1 else .slice none (n + 1) 0
theorem wAp_ok {ia ib ic : Nat} (h1 : ib ≠ ia) (h2 : ic ≠ ia) (h3 : ic ≠ ib) (n : Nat) (v0 : Value) (k : Nat) : RAp n v0 ia ib ic k (wAp n v0 ia ib k) := by
  unfold RAp wAp
  refine ⟨?_, ?_, ?_⟩ <;> rintro rfl
  · rw [if_pos rfl]
  · rw [if_neg h1, if_pos rfl]; exact ⟨0, rfl⟩
  · rw [if_neg h2, if_neg h3]; exact ⟨none, 0, rfl⟩
theorem info_ringA : (Try.prog.info? 87).map (fun i => (i.zero, i.size, i.bytes)) = some (some (.agg #[.int .i64 0, .int .i64 0]), 2, 16) := by kernel_rfl
theorem info_pntA : (Try.prog.info? 40).map (fun i => (i.zero, i.size, i.bytes)) = some (some (.agg #[.int .i64 0, .int .i64 0]), 2, 16) := by kernel_rfl
/-- The board's rings, lines and numbers. -/
def outA (k : Nat) : Int := [990, 1070, 1620, 1700].getD k 0
def rgA (f : Nat → Nat) (k : Nat) : Rg := ⟨outA k, (f k : Int) % 5⟩
theorem ixA0 (W : World) : (Instr.index 85 (.agg #[.int .i64 990, .int .i64 1070, .int .i64 1620, .int .i64 1700]) (.int .i64 0)).run Try.prog W = .ok (.int .i64 (outA 0)) W := by set_option maxRecDepth 100000 in rfl
theorem ixA1 (W : World) : (Instr.index 85 (.agg #[.int .i64 990, .int .i64 1070, .int .i64 1620, .int .i64 1700]) (.int .i64 1)).run Try.prog W = .ok (.int .i64 (outA 1)) W := by set_option maxRecDepth 100000 in rfl
theorem ixA2 (W : World) : (Instr.index 85 (.agg #[.int .i64 990, .int .i64 1070, .int .i64 1620, .int .i64 1700]) (.int .i64 2)).run Try.prog W = .ok (.int .i64 (outA 2)) W := by set_option maxRecDepth 100000 in rfl
theorem ixA3 (W : World) : (Instr.index 85 (.agg #[.int .i64 990, .int .i64 1070, .int .i64 1620, .int .i64 1700]) (.int .i64 3)).run Try.prog W = .ok (.int .i64 (outA 3)) W := by set_option maxRecDepth 100000 in rfl
attribute [local go_sem] ixA0 ixA1 ixA2 ixA3
def rotA : Nat → Pt → Pt
  | 0, p => p
  | k + 1, p => ⟨(rotA k p).y, -(rotA k p).x⟩
def baseA (i : Nat) : Pt := [(⟨-156, 988⟩ : Pt), ⟨156, 988⟩, ⟨454, 891⟩, ⟨707, 707⟩, ⟨891, 454⟩].getD i ⟨0, 0⟩
def linA (n : Nat) : List Pt := (List.range n).map fun j => rotA (j / 5) (baseA (j % 5))
def numA : List Int := [20, 1, 18, 4, 13, 6, 10, 15, 2, 17, 3, 19, 7, 16, 8, 11, 14, 9, 12, 5]
def armB (f : Nat → Nat) (wire : Nat) : Brd := ⟨64, 159, (List.range 4).map (rgA f), linA 20, numA, (wire : Int) % 11⟩
def ringC (l : List Rg) : List Value := l.flatMap fun r => [.int .i64 r.outer, .int .i64 r.factor]
def pntC (l : List Pt) : List Value := l.flatMap fun p => [.int .i64 p.x, .int .i64 p.y]
theorem ringC_snoc (l : List Rg) (r : Rg) : ringC (l ++ [r]) = ringC l ++ [.int .i64 r.outer, .int .i64 r.factor] := by unfold ringC; rw [List.flatMap_append]; rfl
theorem pntC_snoc (l : List Pt) (r : Pt) : pntC (l ++ [r]) = pntC l ++ [.int .i64 r.x, .int .i64 r.y] := by unfold pntC; rw [List.flatMap_append]; rfl
/-- The first coordinates of the five points while they are turned, and the second ones. -/
def xsA (k i : Nat) : List Int := (List.range 5).map fun j => (rotA (if j < i then k + 1 else k) (baseA j)).x
def ysA (k i : Nat) : List Int := (List.range 5).map fun j => (rotA (if j < i then k + 1 else k) (baseA j)).y
def xA (k i : Nat) : Int := (rotA k (baseA i)).x
def yA (k i : Nat) : Int := (rotA k (baseA i)).y
theorem xsA_at {k i : Nat} (h : i < 5) : (xsA k i)[i]? = some (xA k i) := by
  unfold xsA xA
  rw [List.getElem?_map, List.getElem?_range h]
  simp
theorem ysA_at {k i : Nat} (h : i < 5) : (ysA k i)[i]? = some (yA k i) := by
  unfold ysA yA
  rw [List.getElem?_map, List.getElem?_range h]
  simp
theorem xsA_step {k i : Nat} (h : i < 5) : (xsA k i).set i (yA k i) = xsA k (i + 1) := by
  match i, h with
  | 0, _ => rfl
  | 1, _ => rfl
  | 2, _ => rfl
  | 3, _ => rfl
  | 4, _ => rfl
theorem ysA_step {k i : Nat} (h : i < 5) : (ysA k i).set i (-xA k i) = ysA k (i + 1) := by
  match i, h with
  | 0, _ => rfl
  | 1, _ => rfl
  | 2, _ => rfl
  | 3, _ => rfl
  | 4, _ => rfl
theorem xsA_end (k : Nat) : xsA k 5 = xsA (k + 1) 0 := rfl
theorem ysA_end (k : Nat) : ysA k 5 = ysA (k + 1) 0 := rfl
theorem xA_in {k i : Nat} (hk : k < 4) (hi : i < 5) : -1000 ≤ xA k i ∧ xA k i ≤ 1000 := by
  have h : ∀ k < 4, ∀ i < 5, -1000 ≤ xA k i ∧ xA k i ≤ 1000 := by decide +kernel
  exact h k hk i hi
theorem linA_succ {k i : Nat} (hi : i < 5) : linA (5 * k + i + 1) = linA (5 * k + i) ++ [⟨xA k i, yA k i⟩] := by
  unfold linA xA yA
  rw [List.range_succ, List.map_append, List.map_singleton, show (5 * k + i) / 5 = k by omega, show (5 * k + i) % 5 = i by omega]
theorem linA_len (n : Nat) : (linA n).length = n := by unfold linA; simp
/-- A list of five integers in a variable of its own. -/
def XyAt (W : World) (b : Nat) (l : List Int) : Prop := BlkO W b 88 (l.map (Value.int .i64)).toArray
theorem XyAt.cell {W : World} {b : Nat} {l : List Int} (h : XyAt W b l) {k : Nat} {v : Int} (hk : l[k]? = some v) : W.cell? ⟨b, k, none⟩ = some (.int .i64 v) := (BlkO.blk h).cell k (by simp [hk])
theorem XyAt.set {W : World} {b : Nat} {l : List Int} (h : XyAt W b l) (k : Nat) (v : Int) : XyAt (W.setCell ⟨b, k, none⟩ (.int .i64 v)) b (l.set k v) := by
  have h2 := BlkO.set h k (.int .i64 v)
  unfold XyAt
  rw [List.map_set]
  simpa using h2
def GXy (xb yb : Nat) (xs xs' ys ys' : List Int) (L : Nat → Bool) (W : World) : Prop := XyAt W xb (bif L 10 then xs' else xs) ∧ XyAt W yb (bif L 12 then ys' else ys)
/-- What the board holds while its lists grow. -/
def rcsA (nb : Nat) (wire : Int) (v : Value) : Array Value := #[.int .i64 64, .int .i64 159, v, .slice none 0 0, .slice (some ⟨nb, 0, none⟩) 20 20, .int .i64 wire]
def lcsA (nb : Nat) (wire : Int) (rv v : Value) : Array Value := #[.int .i64 64, .int .i64 159, rv, v, .slice (some ⟨nb, 0, none⟩) 20 20, .int .i64 wire]
/-- A board of one's own: nothing else names its rings. -/
structure ArmO (base : Nat) (W : World) (v : BrdV) (b : Brd) : Prop where
  rings : W.ownsRow base 87 2 (.slice v.ra b.rings.length v.rc) b.rings.length (ringC b.rings)
  lines : W.ownsRow base 40 2 (.slice v.la b.lines.length v.lc) b.lines.length (pntC b.lines)
  nums : ∃ nb, v.na = some ⟨nb, 0, none⟩ ∧ base ≤ nb ∧ BlkO W nb 3 (b.nums.map (Value.int .i64)).toArray
  cap : v.nc = b.nums.length
set_option maxRecDepth 100000 in
set_option maxHeartbeats 8000000 in
theorem arm_Board (f : Nat → Nat) (wire : Nat) (w : World) (hf : ∀ k, f k < 256) (hw : wire < 256) :
    Calls Try.prog 6 #[.agg #[.int .u8 (f 0), .int .u8 (f 1), .int .u8 (f 2), .int .u8 (f 3)], .int .u8 wire] w fun e w' => ∃ v : BrdV, e = .returned (.agg (v.cells (armB f wire))) ∧ ArmO w.heap.size w' v (armB f wire) ∧ Ext w w' := by
  have f0 := hf 0
  have f1 := hf 1
  have f2 := hf 2
  have f3 := hf 3
  go_enter Try.func6, Try.ntmps6
  go_upto_region 2 with fail
  obtain ⟨w1, hw1⟩ : ∃ y, y = (((w.alloc (.cells #[.int .u8 (f 0), .int .u8 (f 1), .int .u8 (f 2), .int .u8 (f 3)] 29)).alloc (.cells #[.int .i64 0, .int .i64 0, .slice none 0 0, .slice none 0 0, .slice none 0 0, .int .i64 0] 27)).alloc (.cells #[.int .i64 20, .int .i64 1, .int .i64 18, .int .i64 4, .int .i64 13, .int .i64 6, .int .i64 10, .int .i64 15, .int .i64 2, .int .i64 17, .int .i64 3, .int .i64 19, .int .i64 7, .int .i64 16, .int .i64 8, .int .i64 11, .int .i64 14, .int .i64 9, .int .i64 12, .int .i64 5] 3)).alloc (.cells (rcsA (w.heap.size + 1 + 1) ((wire : Int) % 11) (.slice none 0 0)) 27) := ⟨_, rfl⟩
  unfold rcsA at hw1
  rw [← hw1]
  have hk1 : BlkO w1 (w.heap.size + 1 + 1 + 1) 27 (rcsA (w.heap.size + 1 + 1) ((wire : Int) % 11) (.slice none 0 0)) := by rw [hw1]; exact BlkO.new _ _ (by simp)
  have hn1 : BlkO w1 (w.heap.size + 1 + 1) 3 #[.int .i64 20, .int .i64 1, .int .i64 18, .int .i64 4, .int .i64 13, .int .i64 6, .int .i64 10, .int .i64 15, .int .i64 2, .int .i64 17, .int .i64 3, .int .i64 19, .int .i64 7, .int .i64 16, .int .i64 8, .int .i64 11, .int .i64 14, .int .i64 9, .int .i64 12, .int .i64 5] := by rw [hw1]; exact (BlkO.new _ _ (by simp)).alloc _
  have hr1 : Blk w1 (w.heap.size + 1) #[.int .i64 0, .int .i64 0, .slice none 0 0, .slice none 0 0, .slice none 0 0, .int .i64 0] := by rw [hw1]; exact (((Blk.at _ (by simp)).alloc _).alloc _)
  have hf1 : Blk w1 w.heap.size #[.int .u8 (f 0), .int .u8 (f 1), .int .u8 (f 2), .int .u8 (f 3)] := by rw [hw1]; exact (((Blk.new _ _ _).alloc _).alloc _).alloc _
  have hx1 : Ext w w1 := by rw [hw1]; exact ((((Ext.refl w).alloc _).alloc _).alloc _).alloc _
  have hs1 : w1.heap.size = w.heap.size + 1 + 1 + 1 + 1 := by rw [hw1]; simp
  have HK1 := Lib.hid hk1
  have HN1 := Lib.hid hn1
  have HR1 := Lib.hid hr1
  have HF1 := Lib.hid hf1
  have HX1 := Lib.hid hx1
  have HS1 := Lib.hid hs1
  clear hw1 hk1 hn1 hr1 hf1 hx1 hs1
  go_wp2
  go_loopw [6] (fun i wr => ∃ (k : Nat) (rv : Value), k ≤ 4 ∧ i = .int .i64 k ∧ BlkO wr (w.heap.size + 1 + 1 + 1) 27 (rcsA (w.heap.size + 1 + 1) ((wire : Int) % 11) rv) ∧ wr.ownsRow w1.heap.size 87 2 rv k (ringC ((List.range k).map (rgA f))) ∧ Chg (· = (w.heap.size + 1 + 1 + 1)) w1 wr) (fun i _ => 4 - (intOf i).toNat)
  case atStart => exact ⟨0, _, by omega, rfl, HK1.out, World.ownsRow_nil _ _ _ _, Chg.refl _ _⟩
  case round =>
    obtain ⟨k, rv, hk, rfl, hbt, hrow, hc⟩ := hrel
    obtain ⟨w3, rfl⟩ : ∃ y, y = wr := ⟨_, rfl⟩
    have HBT := Lib.hid hbt
    have HRW := Lib.hid hrow
    have HC := Lib.hid hc
    clear hbt hrow hc
    by_cases hlt : k < 4
    · have HNX : Hid (ringC ((List.range (k + 1)).map (rgA f)) = ringC ((List.range k).map (rgA f)) ++ [.int .i64 (outA k), .int .i64 ((f k : Int) % 5)]) := Lib.hid (by rw [List.range_succ, List.map_append, List.map_singleton, ringC_snoc]; rfl)
      obtain ⟨xs, hxs⟩ : ∃ y, ringC ((List.range k).map (rgA f)) = y := ⟨_, rfl⟩
      rw [hxs] at HRW HNX
      obtain ⟨ra, rc, rfl⟩ := own_shape HRW.out
      clear hxs
      have HSZ : Hid (w1.heap.size ≤ w3.heap.size) := Lib.hid HC.out.size
      have HF3 := Lib.hid (HF1.out.chg HC.out (by intro e; omega))
      have hnF : ∀ o, ¬ ApX (w.heap.size + 1 + 1 + 1) w1.heap.size w.heap.size o := apX_not (by omega) (by rw [HS1.out]; omega)
      have hFl := HF3.out.lt
      have p0 := HF3.out.cell 0 (v := .int .u8 (f 0)) rfl
      have p1 := HF3.out.cell 1 (v := .int .u8 (f 1)) rfl
      have p2 := HF3.out.cell 2 (v := .int .u8 (f 2)) rfl
      have p3 := HF3.out.cell 3 (v := .int .u8 (f 3)) rfl
      obtain rfl | rfl | rfl | rfl : k = 0 ∨ k = 1 ∨ k = 2 ∨ k = 3 := by omega
      · go_upto_region 5 with fail
        refine wp_region_lat (by kernel_rfl) (ApX (w.heap.size + 1 + 1 + 1) w1.heap.size) (fun k => (k == 1) || ((k == 11) || ((k == 12) || (k == 14)))) (RAp 0 (.slice ra 0 rc) 1 11 12) (GAp (w.heap.size + 1 + 1 + 1) 27 (rcsA (w.heap.size + 1 + 1) ((wire : Int) % 11)) w1.heap.size 87 0 (.slice ra 0 rc) xs (.int .i64 (outA 0)) (.int .i64 ((f 0 : Int) % 5)) 11 12 14) (by kernel_rfl)
          (fun k hk => by
            simp only [Bool.or_eq_true, beq_iff_eq] at hk
            rcases hk with rfl | rfl | rfl | rfl <;> decide)
          (fun L L' u w' h hg => hg.congr (h 11 rfl) (h 12 rfl) (h 14 rfl) rfl rfl) (fun L u a b h hx => h.ext hx) (wAp 0 (.slice ra 0 rc) 1 11) (fun k _ => wAp_ok (by decide) (by decide) (by decide) _ _ k) ⟨HBT.out.ext (Ext.refl w3).drew, fun _ => own_chg HRW.out ((Ext.refl w3).drew.chg fun _ => False) fun _ _ => id, fun h => absurd h (by decide), fun h => absurd h (by decide)⟩ ?_
        intro T hT hne2 u hu
        have e_1 : u 1 = (.slice ra 0 rc) := (hu 1 rfl).1 rfl
        obtain ⟨b9, e_11⟩ := (hu 11 rfl).2.1 rfl
        obtain ⟨a10, c10, e_12⟩ := (hu 12 rfl).2.2 rfl
        refine lx_next 1 (by rfl) (by decide) ?_
        dsimp only [List.take, List.drop]
        repeat (go_big_quiet_step (fail))
        refine wpQuiet_nil ?_
        refine lx_loud (by rfl) (by kernel_rfl) ?_ (fun K hK => ?_)
        · intro L w4 hL hd hcl hC hs
          obtain ⟨y, rfl⟩ := hC
          have d14 := hcl.off hL 40 14 (by kernel_rfl)
          have hb := hs.brd
          rw [d14] at hb
          have r0 := hb.blk.cell 2 (v := (.slice ra 0 rc)) rfl
          have rl := hb.blk.lt
          have HS := Lib.hid hs
          clear hs hd hcl hL d14 hb
          go_wp2
          exact ⟨⟨fun _ => rfl, fun h => absurd h (by decide), fun h => absurd h (by decide)⟩, ⟨y, rfl⟩, HS.out.congr rfl rfl rfl rfl rfl⟩
        rw [e_1]
        go_simp
        with_reducible refine hK _ ?_
        clear hK K
        refine lx_next 9 (by rfl) (by decide) ?_
        dsimp only [List.take, List.drop]
        repeat (go_big_quiet_step (fail))
        refine wpQuiet_nil ?_
        refine lx_loud (by rfl) (by kernel_rfl) ?_ (fun K hK => ?_)
        · intro L w4 hL hd hcl hC hs
          obtain ⟨y, rfl⟩ := hC
          have HS := Lib.hid hs
          clear hs hd hcl hL
          go_wp2
          have h := HS.out.ext ((Ext.refl y.world).alloc (.cells #[(.int .i64 (outA 0)), (.int .i64 ((f 0 : Int) % 5))] 87))
          exact ⟨⟨fun h => absurd h (by decide), fun _ => ⟨_, rfl⟩, fun h => absurd h (by decide)⟩, ⟨y.ext ((Ext.refl _).alloc _), rfl⟩, ⟨h.brd, h.row, fun _ _ => ⟨_, rfl, Blk.new y.world _ _⟩, h.row'⟩⟩
        rw [e_11]
        go_simp
        with_reducible refine hK _ ?_
        clear hK K
        refine lx_loud (by rfl) (by kernel_rfl) ?_ (fun K hK => ?_)
        · intro L w4 hL hd hcl hC hs
          obtain ⟨y, rfl⟩ := hC
          have d14 := hcl.off hL 40 14 (by kernel_rfl)
          have hb := hs.brd
          rw [d14] at hb
          have hb : BlkO y.world (w.heap.size + 1 + 1 + 1) 27 ((rcsA (w.heap.size + 1 + 1) ((wire : Int) % 11)) (.slice ra 0 rc)) := hb
          obtain ⟨bb9, e9, hbc⟩ := hs.box (hd 11 (by kernel_rfl)) hL
          obtain rfl : b9 = bb9 := by rw [e_11] at e9; cases e9; rfl
          have HRW := Lib.hid (hs.row hL)
          have HBC := Lib.hid hbc
          have HB := Lib.hid hb
          have D14 := Lib.hid d14
          have HYS : Hid (w1.heap.size ≤ y.world.heap.size) := Lib.hid (Nat.le_trans HSZ.out y.size)
          clear hs hd hcl hL d14 hb e9 hbc
          go_wp2_with (at_builtin; refine wp_append_from rfl _ _ 23 87 _ 2 16 rfl info_ringA (by kernel_rfl) rfl (by decide) w1.heap.size (.slice ra 0 rc) 0 xs rfl HRW.out (some ⟨b9, 0, none⟩) 1 1 [(.int .i64 (outA 0)), (.int .i64 ((f 0 : Int) % 5))] rfl (fun h => by cases h) rfl ?_ ?_ (by omega) (by omega) HYS.out ?_)
          · intro ad had j' u hj
            cases had
            match j', hj with
            | 0, hj => cases hj; rw [addr_add]; exact HBC.out.cell 0 rfl
            | 1, hj => cases hj; rw [addr_add]; exact HBC.out.cell 1 rfl
          · intro u hu
            simp only [List.mem_cons, List.not_mem_nil, or_false] at hu
            rcases hu with rfl | rfl <;> rfl
          intro v' w6 hO6 hg6 hn6
          obtain ⟨va, vc, rfl⟩ := own_shape hO6
          have HB6 := Lib.hid (HB.out.chg hg6 (fun e => HB.out.ne HRW.out (by decide) _ e rfl))
          have HO6 := Lib.hid hO6
          have HG6 := Lib.hid hg6
          clear hO6 hg6 hn6
          go_wp2
          exact ⟨⟨fun h => absurd h (by decide), fun h => absurd h (by decide), fun _ => ⟨_, _, rfl⟩⟩, ⟨y.chgd HG6.out (fun b hb => .inr fun _ => .inr (World.ownsRow.lt HRW.out b hb).1), rfl⟩, ⟨by show BlkO _ _ _ ((rcsA (w.heap.size + 1 + 1) ((wire : Int) % 11)) (bif L 14 then _ else _)); rw [D14.out]; exact HB6.out, fun h => Bool.noConfusion (show true = false from h), fun _ h => Bool.noConfusion (show true = false from h), fun _ => HO6.out⟩⟩
        rw [e_12]
        go_simp
        with_reducible refine hK _ ?_
        clear hK K
        refine lx_next 1 (by rfl) (by decide) ?_
        dsimp only [List.take, List.drop]
        repeat (go_big_quiet_step (fail))
        refine wpQuiet_nil ?_
        refine lx_loud (by rfl) (by kernel_rfl) ?_ (fun K hK => ?_)
        · intro L w4 hL hd hcl hC hs
          obtain ⟨y, rfl⟩ := hC
          have h10 := hd 12 (by kernel_rfl)
          have hb := hs.brd
          rw [hL] at hb
          have hb : BlkO y.world (w.heap.size + 1 + 1 + 1) 27 ((rcsA (w.heap.size + 1 + 1) ((wire : Int) % 11)) (.slice ra 0 rc)) := hb
          have hr' := hs.row' h10
          rw [e_12] at hr'
          have r0 := hb.blk.cell 2 (v := (.slice ra 0 rc)) rfl
          have rf := hb.blk.frozen 2
          have rl := hb.blk.lt
          have HB := Lib.hid hb
          have HRP := Lib.hid hr'
          have H10 := Lib.hid h10
          clear hs hd hcl hL h10 hb hr'
          go_wp2
          have hC : Chg (· = (w.heap.size + 1 + 1 + 1)) y.world (y.world.setCell ⟨(w.heap.size + 1 + 1 + 1), 2, none⟩ (.slice a10 1 c10)) := (Chg.refl (· = (w.heap.size + 1 + 1 + 1)) y.world).setCell (.inr (show (fun x => x = (w.heap.size + 1 + 1 + 1)) ((w.heap.size + 1 + 1 + 1)) from rfl)) _
          have h10 := H10.out
          exact ⟨⟨fun h => absurd h (by decide), fun h => absurd h (by decide), fun h => absurd h (by decide)⟩, ⟨y.chgd hC (fun b hb => .inr fun _ => .inl hb), rfl⟩, ⟨by show BlkO _ _ _ ((rcsA (w.heap.size + 1 + 1) ((wire : Int) % 11)) (bif upd L 14 14 then u 12 else _)); rw [show upd L 14 14 = true from rfl, e_12]; exact HB.out.set 2 _, (fun h => by have h : L 12 = false := h; rw [h10] at h; cases h), (fun _ h => by have h : L 12 = false := h; rw [h10] at h; cases h), fun _ => by show World.ownsRow _ _ _ _ (u 12) _ _; rw [e_12]; exact own_chg HRP.out hC (HB.out.ne HRP.out (by decide))⟩⟩
        go_simp
        with_reducible refine hK _ ?_
        clear hK K
        refine lx_nil ?_
        intro y hs
        have hb := hs.brd
        have hb : BlkO y.world (w.heap.size + 1 + 1 + 1) 27 ((rcsA (w.heap.size + 1 + 1) ((wire : Int) % 11)) (u 12)) := hb
        have hr' := hs.row' rfl
        rw [e_12] at hb hr'
        have HBN := Lib.hid hb
        have HRN := Lib.hid hr'
        have HCN := Lib.hid y.chg
        clear hs hb hr' hu hT hne2 e_1 e_11 e_12
        generalize y.world = w11 at *
        clear y
        go_wp2
        go_roundw
        case rel => exact ⟨1, _, by omega, by go_num, HBN.out, by rw [HNX.out]; exact HRN.out, HC.out.after HCN.out (by rintro i hi ⟨o, h⟩; exact h.elim id (fun h => absurd hi (by omega)))⟩
        case measure => simp [intOf]
      · go_upto_region 5 with fail
        refine wp_region_lat (by kernel_rfl) (ApX (w.heap.size + 1 + 1 + 1) w1.heap.size) (fun k => (k == 1) || ((k == 11) || ((k == 12) || (k == 14)))) (RAp 1 (.slice ra 1 rc) 1 11 12) (GAp (w.heap.size + 1 + 1 + 1) 27 (rcsA (w.heap.size + 1 + 1) ((wire : Int) % 11)) w1.heap.size 87 1 (.slice ra 1 rc) xs (.int .i64 (outA 1)) (.int .i64 ((f 1 : Int) % 5)) 11 12 14) (by kernel_rfl)
          (fun k hk => by
            simp only [Bool.or_eq_true, beq_iff_eq] at hk
            rcases hk with rfl | rfl | rfl | rfl <;> decide)
          (fun L L' u w' h hg => hg.congr (h 11 rfl) (h 12 rfl) (h 14 rfl) rfl rfl) (fun L u a b h hx => h.ext hx) (wAp 1 (.slice ra 1 rc) 1 11) (fun k _ => wAp_ok (by decide) (by decide) (by decide) _ _ k) ⟨HBT.out.ext (Ext.refl w3).drew, fun _ => own_chg HRW.out ((Ext.refl w3).drew.chg fun _ => False) fun _ _ => id, fun h => absurd h (by decide), fun h => absurd h (by decide)⟩ ?_
        intro T hT hne2 u hu
        have e_1 : u 1 = (.slice ra 1 rc) := (hu 1 rfl).1 rfl
        obtain ⟨b9, e_11⟩ := (hu 11 rfl).2.1 rfl
        obtain ⟨a10, c10, e_12⟩ := (hu 12 rfl).2.2 rfl
        refine lx_next 1 (by rfl) (by decide) ?_
        dsimp only [List.take, List.drop]
        repeat (go_big_quiet_step (fail))
        refine wpQuiet_nil ?_
        refine lx_loud (by rfl) (by kernel_rfl) ?_ (fun K hK => ?_)
        · intro L w4 hL hd hcl hC hs
          obtain ⟨y, rfl⟩ := hC
          have d14 := hcl.off hL 40 14 (by kernel_rfl)
          have hb := hs.brd
          rw [d14] at hb
          have r0 := hb.blk.cell 2 (v := (.slice ra 1 rc)) rfl
          have rl := hb.blk.lt
          have HS := Lib.hid hs
          clear hs hd hcl hL d14 hb
          go_wp2
          exact ⟨⟨fun _ => rfl, fun h => absurd h (by decide), fun h => absurd h (by decide)⟩, ⟨y, rfl⟩, HS.out.congr rfl rfl rfl rfl rfl⟩
        rw [e_1]
        go_simp
        with_reducible refine hK _ ?_
        clear hK K
        refine lx_next 9 (by rfl) (by decide) ?_
        dsimp only [List.take, List.drop]
        repeat (go_big_quiet_step (fail))
        refine wpQuiet_nil ?_
        refine lx_loud (by rfl) (by kernel_rfl) ?_ (fun K hK => ?_)
        · intro L w4 hL hd hcl hC hs
          obtain ⟨y, rfl⟩ := hC
          have HS := Lib.hid hs
          clear hs hd hcl hL
          go_wp2
          have h := HS.out.ext ((Ext.refl y.world).alloc (.cells #[(.int .i64 (outA 1)), (.int .i64 ((f 1 : Int) % 5))] 87))
          exact ⟨⟨fun h => absurd h (by decide), fun _ => ⟨_, rfl⟩, fun h => absurd h (by decide)⟩, ⟨y.ext ((Ext.refl _).alloc _), rfl⟩, ⟨h.brd, h.row, fun _ _ => ⟨_, rfl, Blk.new y.world _ _⟩, h.row'⟩⟩
        rw [e_11]
        go_simp
        with_reducible refine hK _ ?_
        clear hK K
        refine lx_loud (by rfl) (by kernel_rfl) ?_ (fun K hK => ?_)
        · intro L w4 hL hd hcl hC hs
          obtain ⟨y, rfl⟩ := hC
          have d14 := hcl.off hL 40 14 (by kernel_rfl)
          have hb := hs.brd
          rw [d14] at hb
          have hb : BlkO y.world (w.heap.size + 1 + 1 + 1) 27 ((rcsA (w.heap.size + 1 + 1) ((wire : Int) % 11)) (.slice ra 1 rc)) := hb
          obtain ⟨bb9, e9, hbc⟩ := hs.box (hd 11 (by kernel_rfl)) hL
          obtain rfl : b9 = bb9 := by rw [e_11] at e9; cases e9; rfl
          have HRW := Lib.hid (hs.row hL)
          have HBC := Lib.hid hbc
          have HB := Lib.hid hb
          have D14 := Lib.hid d14
          have HYS : Hid (w1.heap.size ≤ y.world.heap.size) := Lib.hid (Nat.le_trans HSZ.out y.size)
          clear hs hd hcl hL d14 hb e9 hbc
          go_wp2_with (at_builtin; refine wp_append_from rfl _ _ 23 87 _ 2 16 rfl info_ringA (by kernel_rfl) rfl (by decide) w1.heap.size (.slice ra 1 rc) 1 xs rfl HRW.out (some ⟨b9, 0, none⟩) 1 1 [(.int .i64 (outA 1)), (.int .i64 ((f 1 : Int) % 5))] rfl (fun h => by cases h) rfl ?_ ?_ (by omega) (by omega) HYS.out ?_)
          · intro ad had j' u hj
            cases had
            match j', hj with
            | 0, hj => cases hj; rw [addr_add]; exact HBC.out.cell 0 rfl
            | 1, hj => cases hj; rw [addr_add]; exact HBC.out.cell 1 rfl
          · intro u hu
            simp only [List.mem_cons, List.not_mem_nil, or_false] at hu
            rcases hu with rfl | rfl <;> rfl
          intro v' w6 hO6 hg6 hn6
          obtain ⟨va, vc, rfl⟩ := own_shape hO6
          have HB6 := Lib.hid (HB.out.chg hg6 (fun e => HB.out.ne HRW.out (by decide) _ e rfl))
          have HO6 := Lib.hid hO6
          have HG6 := Lib.hid hg6
          clear hO6 hg6 hn6
          go_wp2
          exact ⟨⟨fun h => absurd h (by decide), fun h => absurd h (by decide), fun _ => ⟨_, _, rfl⟩⟩, ⟨y.chgd HG6.out (fun b hb => .inr fun _ => .inr (World.ownsRow.lt HRW.out b hb).1), rfl⟩, ⟨by show BlkO _ _ _ ((rcsA (w.heap.size + 1 + 1) ((wire : Int) % 11)) (bif L 14 then _ else _)); rw [D14.out]; exact HB6.out, fun h => Bool.noConfusion (show true = false from h), fun _ h => Bool.noConfusion (show true = false from h), fun _ => HO6.out⟩⟩
        rw [e_12]
        go_simp
        with_reducible refine hK _ ?_
        clear hK K
        refine lx_next 1 (by rfl) (by decide) ?_
        dsimp only [List.take, List.drop]
        repeat (go_big_quiet_step (fail))
        refine wpQuiet_nil ?_
        refine lx_loud (by rfl) (by kernel_rfl) ?_ (fun K hK => ?_)
        · intro L w4 hL hd hcl hC hs
          obtain ⟨y, rfl⟩ := hC
          have h10 := hd 12 (by kernel_rfl)
          have hb := hs.brd
          rw [hL] at hb
          have hb : BlkO y.world (w.heap.size + 1 + 1 + 1) 27 ((rcsA (w.heap.size + 1 + 1) ((wire : Int) % 11)) (.slice ra 1 rc)) := hb
          have hr' := hs.row' h10
          rw [e_12] at hr'
          have r0 := hb.blk.cell 2 (v := (.slice ra 1 rc)) rfl
          have rf := hb.blk.frozen 2
          have rl := hb.blk.lt
          have HB := Lib.hid hb
          have HRP := Lib.hid hr'
          have H10 := Lib.hid h10
          clear hs hd hcl hL h10 hb hr'
          go_wp2
          have hC : Chg (· = (w.heap.size + 1 + 1 + 1)) y.world (y.world.setCell ⟨(w.heap.size + 1 + 1 + 1), 2, none⟩ (.slice a10 2 c10)) := (Chg.refl (· = (w.heap.size + 1 + 1 + 1)) y.world).setCell (.inr (show (fun x => x = (w.heap.size + 1 + 1 + 1)) ((w.heap.size + 1 + 1 + 1)) from rfl)) _
          have h10 := H10.out
          exact ⟨⟨fun h => absurd h (by decide), fun h => absurd h (by decide), fun h => absurd h (by decide)⟩, ⟨y.chgd hC (fun b hb => .inr fun _ => .inl hb), rfl⟩, ⟨by show BlkO _ _ _ ((rcsA (w.heap.size + 1 + 1) ((wire : Int) % 11)) (bif upd L 14 14 then u 12 else _)); rw [show upd L 14 14 = true from rfl, e_12]; exact HB.out.set 2 _, (fun h => by have h : L 12 = false := h; rw [h10] at h; cases h), (fun _ h => by have h : L 12 = false := h; rw [h10] at h; cases h), fun _ => by show World.ownsRow _ _ _ _ (u 12) _ _; rw [e_12]; exact own_chg HRP.out hC (HB.out.ne HRP.out (by decide))⟩⟩
        go_simp
        with_reducible refine hK _ ?_
        clear hK K
        refine lx_nil ?_
        intro y hs
        have hb := hs.brd
        have hb : BlkO y.world (w.heap.size + 1 + 1 + 1) 27 ((rcsA (w.heap.size + 1 + 1) ((wire : Int) % 11)) (u 12)) := hb
        have hr' := hs.row' rfl
        rw [e_12] at hb hr'
        have HBN := Lib.hid hb
        have HRN := Lib.hid hr'
        have HCN := Lib.hid y.chg
        clear hs hb hr' hu hT hne2 e_1 e_11 e_12
        generalize y.world = w11 at *
        clear y
        go_wp2
        go_roundw
        case rel => exact ⟨2, _, by omega, by go_num, HBN.out, by rw [HNX.out]; exact HRN.out, HC.out.after HCN.out (by rintro i hi ⟨o, h⟩; exact h.elim id (fun h => absurd hi (by omega)))⟩
        case measure => simp [intOf]
      · go_upto_region 5 with fail
        refine wp_region_lat (by kernel_rfl) (ApX (w.heap.size + 1 + 1 + 1) w1.heap.size) (fun k => (k == 1) || ((k == 11) || ((k == 12) || (k == 14)))) (RAp 2 (.slice ra 2 rc) 1 11 12) (GAp (w.heap.size + 1 + 1 + 1) 27 (rcsA (w.heap.size + 1 + 1) ((wire : Int) % 11)) w1.heap.size 87 2 (.slice ra 2 rc) xs (.int .i64 (outA 2)) (.int .i64 ((f 2 : Int) % 5)) 11 12 14) (by kernel_rfl)
          (fun k hk => by
            simp only [Bool.or_eq_true, beq_iff_eq] at hk
            rcases hk with rfl | rfl | rfl | rfl <;> decide)
          (fun L L' u w' h hg => hg.congr (h 11 rfl) (h 12 rfl) (h 14 rfl) rfl rfl) (fun L u a b h hx => h.ext hx) (wAp 2 (.slice ra 2 rc) 1 11) (fun k _ => wAp_ok (by decide) (by decide) (by decide) _ _ k) ⟨HBT.out.ext (Ext.refl w3).drew, fun _ => own_chg HRW.out ((Ext.refl w3).drew.chg fun _ => False) fun _ _ => id, fun h => absurd h (by decide), fun h => absurd h (by decide)⟩ ?_
        intro T hT hne2 u hu
        have e_1 : u 1 = (.slice ra 2 rc) := (hu 1 rfl).1 rfl
        obtain ⟨b9, e_11⟩ := (hu 11 rfl).2.1 rfl
        obtain ⟨a10, c10, e_12⟩ := (hu 12 rfl).2.2 rfl
        refine lx_next 1 (by rfl) (by decide) ?_
        dsimp only [List.take, List.drop]
        repeat (go_big_quiet_step (fail))
        refine wpQuiet_nil ?_
        refine lx_loud (by rfl) (by kernel_rfl) ?_ (fun K hK => ?_)
        · intro L w4 hL hd hcl hC hs
          obtain ⟨y, rfl⟩ := hC
          have d14 := hcl.off hL 40 14 (by kernel_rfl)
          have hb := hs.brd
          rw [d14] at hb
          have r0 := hb.blk.cell 2 (v := (.slice ra 2 rc)) rfl
          have rl := hb.blk.lt
          have HS := Lib.hid hs
          clear hs hd hcl hL d14 hb
          go_wp2
          exact ⟨⟨fun _ => rfl, fun h => absurd h (by decide), fun h => absurd h (by decide)⟩, ⟨y, rfl⟩, HS.out.congr rfl rfl rfl rfl rfl⟩
        rw [e_1]
        go_simp
        with_reducible refine hK _ ?_
        clear hK K
        refine lx_next 9 (by rfl) (by decide) ?_
        dsimp only [List.take, List.drop]
        repeat (go_big_quiet_step (fail))
        refine wpQuiet_nil ?_
        refine lx_loud (by rfl) (by kernel_rfl) ?_ (fun K hK => ?_)
        · intro L w4 hL hd hcl hC hs
          obtain ⟨y, rfl⟩ := hC
          have HS := Lib.hid hs
          clear hs hd hcl hL
          go_wp2
          have h := HS.out.ext ((Ext.refl y.world).alloc (.cells #[(.int .i64 (outA 2)), (.int .i64 ((f 2 : Int) % 5))] 87))
          exact ⟨⟨fun h => absurd h (by decide), fun _ => ⟨_, rfl⟩, fun h => absurd h (by decide)⟩, ⟨y.ext ((Ext.refl _).alloc _), rfl⟩, ⟨h.brd, h.row, fun _ _ => ⟨_, rfl, Blk.new y.world _ _⟩, h.row'⟩⟩
        rw [e_11]
        go_simp
        with_reducible refine hK _ ?_
        clear hK K
        refine lx_loud (by rfl) (by kernel_rfl) ?_ (fun K hK => ?_)
        · intro L w4 hL hd hcl hC hs
          obtain ⟨y, rfl⟩ := hC
          have d14 := hcl.off hL 40 14 (by kernel_rfl)
          have hb := hs.brd
          rw [d14] at hb
          have hb : BlkO y.world (w.heap.size + 1 + 1 + 1) 27 ((rcsA (w.heap.size + 1 + 1) ((wire : Int) % 11)) (.slice ra 2 rc)) := hb
          obtain ⟨bb9, e9, hbc⟩ := hs.box (hd 11 (by kernel_rfl)) hL
          obtain rfl : b9 = bb9 := by rw [e_11] at e9; cases e9; rfl
          have HRW := Lib.hid (hs.row hL)
          have HBC := Lib.hid hbc
          have HB := Lib.hid hb
          have D14 := Lib.hid d14
          have HYS : Hid (w1.heap.size ≤ y.world.heap.size) := Lib.hid (Nat.le_trans HSZ.out y.size)
          clear hs hd hcl hL d14 hb e9 hbc
          go_wp2_with (at_builtin; refine wp_append_from rfl _ _ 23 87 _ 2 16 rfl info_ringA (by kernel_rfl) rfl (by decide) w1.heap.size (.slice ra 2 rc) 2 xs rfl HRW.out (some ⟨b9, 0, none⟩) 1 1 [(.int .i64 (outA 2)), (.int .i64 ((f 2 : Int) % 5))] rfl (fun h => by cases h) rfl ?_ ?_ (by omega) (by omega) HYS.out ?_)
          · intro ad had j' u hj
            cases had
            match j', hj with
            | 0, hj => cases hj; rw [addr_add]; exact HBC.out.cell 0 rfl
            | 1, hj => cases hj; rw [addr_add]; exact HBC.out.cell 1 rfl
          · intro u hu
            simp only [List.mem_cons, List.not_mem_nil, or_false] at hu
            rcases hu with rfl | rfl <;> rfl
          intro v' w6 hO6 hg6 hn6
          obtain ⟨va, vc, rfl⟩ := own_shape hO6
          have HB6 := Lib.hid (HB.out.chg hg6 (fun e => HB.out.ne HRW.out (by decide) _ e rfl))
          have HO6 := Lib.hid hO6
          have HG6 := Lib.hid hg6
          clear hO6 hg6 hn6
          go_wp2
          exact ⟨⟨fun h => absurd h (by decide), fun h => absurd h (by decide), fun _ => ⟨_, _, rfl⟩⟩, ⟨y.chgd HG6.out (fun b hb => .inr fun _ => .inr (World.ownsRow.lt HRW.out b hb).1), rfl⟩, ⟨by show BlkO _ _ _ ((rcsA (w.heap.size + 1 + 1) ((wire : Int) % 11)) (bif L 14 then _ else _)); rw [D14.out]; exact HB6.out, fun h => Bool.noConfusion (show true = false from h), fun _ h => Bool.noConfusion (show true = false from h), fun _ => HO6.out⟩⟩
        rw [e_12]
        go_simp
        with_reducible refine hK _ ?_
        clear hK K
        refine lx_next 1 (by rfl) (by decide) ?_
        dsimp only [List.take, List.drop]
        repeat (go_big_quiet_step (fail))
        refine wpQuiet_nil ?_
        refine lx_loud (by rfl) (by kernel_rfl) ?_ (fun K hK => ?_)
        · intro L w4 hL hd hcl hC hs
          obtain ⟨y, rfl⟩ := hC
          have h10 := hd 12 (by kernel_rfl)
          have hb := hs.brd
          rw [hL] at hb
          have hb : BlkO y.world (w.heap.size + 1 + 1 + 1) 27 ((rcsA (w.heap.size + 1 + 1) ((wire : Int) % 11)) (.slice ra 2 rc)) := hb
          have hr' := hs.row' h10
          rw [e_12] at hr'
          have r0 := hb.blk.cell 2 (v := (.slice ra 2 rc)) rfl
          have rf := hb.blk.frozen 2
          have rl := hb.blk.lt
          have HB := Lib.hid hb
          have HRP := Lib.hid hr'
          have H10 := Lib.hid h10
          clear hs hd hcl hL h10 hb hr'
          go_wp2
          have hC : Chg (· = (w.heap.size + 1 + 1 + 1)) y.world (y.world.setCell ⟨(w.heap.size + 1 + 1 + 1), 2, none⟩ (.slice a10 3 c10)) := (Chg.refl (· = (w.heap.size + 1 + 1 + 1)) y.world).setCell (.inr (show (fun x => x = (w.heap.size + 1 + 1 + 1)) ((w.heap.size + 1 + 1 + 1)) from rfl)) _
          have h10 := H10.out
          exact ⟨⟨fun h => absurd h (by decide), fun h => absurd h (by decide), fun h => absurd h (by decide)⟩, ⟨y.chgd hC (fun b hb => .inr fun _ => .inl hb), rfl⟩, ⟨by show BlkO _ _ _ ((rcsA (w.heap.size + 1 + 1) ((wire : Int) % 11)) (bif upd L 14 14 then u 12 else _)); rw [show upd L 14 14 = true from rfl, e_12]; exact HB.out.set 2 _, (fun h => by have h : L 12 = false := h; rw [h10] at h; cases h), (fun _ h => by have h : L 12 = false := h; rw [h10] at h; cases h), fun _ => by show World.ownsRow _ _ _ _ (u 12) _ _; rw [e_12]; exact own_chg HRP.out hC (HB.out.ne HRP.out (by decide))⟩⟩
        go_simp
        with_reducible refine hK _ ?_
        clear hK K
        refine lx_nil ?_
        intro y hs
        have hb := hs.brd
        have hb : BlkO y.world (w.heap.size + 1 + 1 + 1) 27 ((rcsA (w.heap.size + 1 + 1) ((wire : Int) % 11)) (u 12)) := hb
        have hr' := hs.row' rfl
        rw [e_12] at hb hr'
        have HBN := Lib.hid hb
        have HRN := Lib.hid hr'
        have HCN := Lib.hid y.chg
        clear hs hb hr' hu hT hne2 e_1 e_11 e_12
        generalize y.world = w11 at *
        clear y
        go_wp2
        go_roundw
        case rel => exact ⟨3, _, by omega, by go_num, HBN.out, by rw [HNX.out]; exact HRN.out, HC.out.after HCN.out (by rintro i hi ⟨o, h⟩; exact h.elim id (fun h => absurd hi (by omega)))⟩
        case measure => simp [intOf]
      · go_upto_region 5 with fail
        refine wp_region_lat (by kernel_rfl) (ApX (w.heap.size + 1 + 1 + 1) w1.heap.size) (fun k => (k == 1) || ((k == 11) || ((k == 12) || (k == 14)))) (RAp 3 (.slice ra 3 rc) 1 11 12) (GAp (w.heap.size + 1 + 1 + 1) 27 (rcsA (w.heap.size + 1 + 1) ((wire : Int) % 11)) w1.heap.size 87 3 (.slice ra 3 rc) xs (.int .i64 (outA 3)) (.int .i64 ((f 3 : Int) % 5)) 11 12 14) (by kernel_rfl)
          (fun k hk => by
            simp only [Bool.or_eq_true, beq_iff_eq] at hk
            rcases hk with rfl | rfl | rfl | rfl <;> decide)
          (fun L L' u w' h hg => hg.congr (h 11 rfl) (h 12 rfl) (h 14 rfl) rfl rfl) (fun L u a b h hx => h.ext hx) (wAp 3 (.slice ra 3 rc) 1 11) (fun k _ => wAp_ok (by decide) (by decide) (by decide) _ _ k) ⟨HBT.out.ext (Ext.refl w3).drew, fun _ => own_chg HRW.out ((Ext.refl w3).drew.chg fun _ => False) fun _ _ => id, fun h => absurd h (by decide), fun h => absurd h (by decide)⟩ ?_
        intro T hT hne2 u hu
        have e_1 : u 1 = (.slice ra 3 rc) := (hu 1 rfl).1 rfl
        obtain ⟨b9, e_11⟩ := (hu 11 rfl).2.1 rfl
        obtain ⟨a10, c10, e_12⟩ := (hu 12 rfl).2.2 rfl
        refine lx_next 1 (by rfl) (by decide) ?_
        dsimp only [List.take, List.drop]
        repeat (go_big_quiet_step (fail))
        refine wpQuiet_nil ?_
        refine lx_loud (by rfl) (by kernel_rfl) ?_ (fun K hK => ?_)
        · intro L w4 hL hd hcl hC hs
          obtain ⟨y, rfl⟩ := hC
          have d14 := hcl.off hL 40 14 (by kernel_rfl)
          have hb := hs.brd
          rw [d14] at hb
          have r0 := hb.blk.cell 2 (v := (.slice ra 3 rc)) rfl
          have rl := hb.blk.lt
          have HS := Lib.hid hs
          clear hs hd hcl hL d14 hb
          go_wp2
          exact ⟨⟨fun _ => rfl, fun h => absurd h (by decide), fun h => absurd h (by decide)⟩, ⟨y, rfl⟩, HS.out.congr rfl rfl rfl rfl rfl⟩
        rw [e_1]
        go_simp
        with_reducible refine hK _ ?_
        clear hK K
        refine lx_next 9 (by rfl) (by decide) ?_
        dsimp only [List.take, List.drop]
        repeat (go_big_quiet_step (fail))
        refine wpQuiet_nil ?_
        refine lx_loud (by rfl) (by kernel_rfl) ?_ (fun K hK => ?_)
        · intro L w4 hL hd hcl hC hs
          obtain ⟨y, rfl⟩ := hC
          have HS := Lib.hid hs
          clear hs hd hcl hL
          go_wp2
          have h := HS.out.ext ((Ext.refl y.world).alloc (.cells #[(.int .i64 (outA 3)), (.int .i64 ((f 3 : Int) % 5))] 87))
          exact ⟨⟨fun h => absurd h (by decide), fun _ => ⟨_, rfl⟩, fun h => absurd h (by decide)⟩, ⟨y.ext ((Ext.refl _).alloc _), rfl⟩, ⟨h.brd, h.row, fun _ _ => ⟨_, rfl, Blk.new y.world _ _⟩, h.row'⟩⟩
        rw [e_11]
        go_simp
        with_reducible refine hK _ ?_
        clear hK K
        refine lx_loud (by rfl) (by kernel_rfl) ?_ (fun K hK => ?_)
        · intro L w4 hL hd hcl hC hs
          obtain ⟨y, rfl⟩ := hC
          have d14 := hcl.off hL 40 14 (by kernel_rfl)
          have hb := hs.brd
          rw [d14] at hb
          have hb : BlkO y.world (w.heap.size + 1 + 1 + 1) 27 ((rcsA (w.heap.size + 1 + 1) ((wire : Int) % 11)) (.slice ra 3 rc)) := hb
          obtain ⟨bb9, e9, hbc⟩ := hs.box (hd 11 (by kernel_rfl)) hL
          obtain rfl : b9 = bb9 := by rw [e_11] at e9; cases e9; rfl
          have HRW := Lib.hid (hs.row hL)
          have HBC := Lib.hid hbc
          have HB := Lib.hid hb
          have D14 := Lib.hid d14
          have HYS : Hid (w1.heap.size ≤ y.world.heap.size) := Lib.hid (Nat.le_trans HSZ.out y.size)
          clear hs hd hcl hL d14 hb e9 hbc
          go_wp2_with (at_builtin; refine wp_append_from rfl _ _ 23 87 _ 2 16 rfl info_ringA (by kernel_rfl) rfl (by decide) w1.heap.size (.slice ra 3 rc) 3 xs rfl HRW.out (some ⟨b9, 0, none⟩) 1 1 [(.int .i64 (outA 3)), (.int .i64 ((f 3 : Int) % 5))] rfl (fun h => by cases h) rfl ?_ ?_ (by omega) (by omega) HYS.out ?_)
          · intro ad had j' u hj
            cases had
            match j', hj with
            | 0, hj => cases hj; rw [addr_add]; exact HBC.out.cell 0 rfl
            | 1, hj => cases hj; rw [addr_add]; exact HBC.out.cell 1 rfl
          · intro u hu
            simp only [List.mem_cons, List.not_mem_nil, or_false] at hu
            rcases hu with rfl | rfl <;> rfl
          intro v' w6 hO6 hg6 hn6
          obtain ⟨va, vc, rfl⟩ := own_shape hO6
          have HB6 := Lib.hid (HB.out.chg hg6 (fun e => HB.out.ne HRW.out (by decide) _ e rfl))
          have HO6 := Lib.hid hO6
          have HG6 := Lib.hid hg6
          clear hO6 hg6 hn6
          go_wp2
          exact ⟨⟨fun h => absurd h (by decide), fun h => absurd h (by decide), fun _ => ⟨_, _, rfl⟩⟩, ⟨y.chgd HG6.out (fun b hb => .inr fun _ => .inr (World.ownsRow.lt HRW.out b hb).1), rfl⟩, ⟨by show BlkO _ _ _ ((rcsA (w.heap.size + 1 + 1) ((wire : Int) % 11)) (bif L 14 then _ else _)); rw [D14.out]; exact HB6.out, fun h => Bool.noConfusion (show true = false from h), fun _ h => Bool.noConfusion (show true = false from h), fun _ => HO6.out⟩⟩
        rw [e_12]
        go_simp
        with_reducible refine hK _ ?_
        clear hK K
        refine lx_next 1 (by rfl) (by decide) ?_
        dsimp only [List.take, List.drop]
        repeat (go_big_quiet_step (fail))
        refine wpQuiet_nil ?_
        refine lx_loud (by rfl) (by kernel_rfl) ?_ (fun K hK => ?_)
        · intro L w4 hL hd hcl hC hs
          obtain ⟨y, rfl⟩ := hC
          have h10 := hd 12 (by kernel_rfl)
          have hb := hs.brd
          rw [hL] at hb
          have hb : BlkO y.world (w.heap.size + 1 + 1 + 1) 27 ((rcsA (w.heap.size + 1 + 1) ((wire : Int) % 11)) (.slice ra 3 rc)) := hb
          have hr' := hs.row' h10
          rw [e_12] at hr'
          have r0 := hb.blk.cell 2 (v := (.slice ra 3 rc)) rfl
          have rf := hb.blk.frozen 2
          have rl := hb.blk.lt
          have HB := Lib.hid hb
          have HRP := Lib.hid hr'
          have H10 := Lib.hid h10
          clear hs hd hcl hL h10 hb hr'
          go_wp2
          have hC : Chg (· = (w.heap.size + 1 + 1 + 1)) y.world (y.world.setCell ⟨(w.heap.size + 1 + 1 + 1), 2, none⟩ (.slice a10 4 c10)) := (Chg.refl (· = (w.heap.size + 1 + 1 + 1)) y.world).setCell (.inr (show (fun x => x = (w.heap.size + 1 + 1 + 1)) ((w.heap.size + 1 + 1 + 1)) from rfl)) _
          have h10 := H10.out
          exact ⟨⟨fun h => absurd h (by decide), fun h => absurd h (by decide), fun h => absurd h (by decide)⟩, ⟨y.chgd hC (fun b hb => .inr fun _ => .inl hb), rfl⟩, ⟨by show BlkO _ _ _ ((rcsA (w.heap.size + 1 + 1) ((wire : Int) % 11)) (bif upd L 14 14 then u 12 else _)); rw [show upd L 14 14 = true from rfl, e_12]; exact HB.out.set 2 _, (fun h => by have h : L 12 = false := h; rw [h10] at h; cases h), (fun _ h => by have h : L 12 = false := h; rw [h10] at h; cases h), fun _ => by show World.ownsRow _ _ _ _ (u 12) _ _; rw [e_12]; exact own_chg HRP.out hC (HB.out.ne HRP.out (by decide))⟩⟩
        go_simp
        with_reducible refine hK _ ?_
        clear hK K
        refine lx_nil ?_
        intro y hs
        have hb := hs.brd
        have hb : BlkO y.world (w.heap.size + 1 + 1 + 1) 27 ((rcsA (w.heap.size + 1 + 1) ((wire : Int) % 11)) (u 12)) := hb
        have hr' := hs.row' rfl
        rw [e_12] at hb hr'
        have HBN := Lib.hid hb
        have HRN := Lib.hid hr'
        have HCN := Lib.hid y.chg
        clear hs hb hr' hu hT hne2 e_1 e_11 e_12
        generalize y.world = w11 at *
        clear y
        go_wp2
        go_roundw
        case rel => exact ⟨4, _, by omega, by go_num, HBN.out, by rw [HNX.out]; exact HRN.out, HC.out.after HCN.out (by rintro i hi ⟨o, h⟩; exact h.elim id (fun h => absurd hi (by omega)))⟩
        case measure => simp [intOf]
    · have hk4 : k = 4 := by omega
      rw [hk4] at HRW
      clear hk4
      obtain ⟨ra, rc, rfl⟩ := own_shape HRW.out
      have HRLT : Hid (∀ q, (Value.slice ra 4 rc).ownBlock = some q → w1.heap.size ≤ q ∧ q < w3.heap.size) := Lib.hid (fun q hq => World.ownsRow.lt HRW.out q hq)
      have HR3 := Lib.hid (HR1.out.chg HC.out (by intro e; omega))
      have HN3 := Lib.hid (HN1.out.chg HC.out (by intro e; omega))
      have HX3 := Lib.hid (Chg.to_ext HX1.out HC.out (by rintro q rfl; omega))
      have HSZ3 := Lib.hid HC.out.size
      clear HK1 HN1 HR1 HF1 HX1 HC
      go_upto_region 7 with fail
      obtain ⟨w4, hw4⟩ : ∃ y, y = (w3.alloc (.cells #[.int .i64 (-156), .int .i64 156, .int .i64 454, .int .i64 707, .int .i64 891] 88)).alloc (.cells #[.int .i64 988, .int .i64 988, .int .i64 891, .int .i64 707, .int .i64 454] 88) := ⟨_, rfl⟩
      rw [← hw4]
      have hxx : XyAt w4 w3.heap.size (xsA 0 0) := by rw [hw4]; exact (BlkO.new _ _ rfl).alloc _
      have hyy : XyAt w4 (w3.heap.size + 1) (ysA 0 0) := by rw [hw4]; exact BlkO.new _ _ (by simp)
      have hx4 : Ext w3 w4 := by rw [hw4]; exact ((Ext.refl w3).alloc _).alloc _
      have hs4 : w4.heap.size = w3.heap.size + 1 + 1 := by rw [hw4]; simp
      have HXX := Lib.hid hxx
      have HYY := Lib.hid hyy
      have HS4 := Lib.hid hs4
      have HBT4 := Lib.hid (HBT.out.ext hx4)
      have HRW4 := Lib.hid (own_chg HRW.out (hx4.chg fun _ => False) fun _ _ => fun a => a)
      have HR4 := Lib.hid (HR3.out.ext hx4)
      have HN4 := Lib.hid (HN3.out.ext hx4)
      have HX4 := Lib.hid (HX3.out.trans hx4)
      clear hw4 hxx hyy hx4 hs4 HBT HRW HR3 HN3 HX3
      have HK3 : Hid ((w.heap.size + 1 + 1 + 1) < w3.heap.size) := Lib.hid (by have := HSZ3.out; have := HS1.out; omega)
      go_wp2
      go_loopw [9] (fun k wr => ∃ (n : Nat) (lv : Value), n ≤ 4 ∧ k = .int .i64 n ∧ BlkO wr (w.heap.size + 1 + 1 + 1) 27 (lcsA (w.heap.size + 1 + 1) ((wire : Int) % 11) (.slice ra 4 rc) lv) ∧ wr.ownsRow w4.heap.size 40 2 lv (5 * n) (pntC (linA (5 * n))) ∧ XyAt wr w3.heap.size (xsA n 0) ∧ XyAt wr (w3.heap.size + 1) (ysA n 0) ∧ Chg (fun b => b = (w.heap.size + 1 + 1 + 1) ∨ b = w3.heap.size ∨ b = w3.heap.size + 1) w4 wr) (fun k _ => 4 - (intOf k).toNat)
      case atStart => exact ⟨0, _, by omega, rfl, HBT4.out, World.ownsRow_nil _ _ _ _, HXX.out, HYY.out, Chg.refl _ _⟩
      case round =>
        obtain ⟨n, lv, hn, rfl, hbt, hrow, hxx, hyy, hc⟩ := hrel
        obtain ⟨w5, rfl⟩ : ∃ y, y = wr := ⟨_, rfl⟩
        have HBT := Lib.hid hbt
        have HRW := Lib.hid hrow
        have HX := Lib.hid hxx
        have HY := Lib.hid hyy
        have HC := Lib.hid hc
        clear hbt hrow hxx hyy hc
        by_cases hlt : n < 4
        · have hlt' : (n : Int) < 4 := by omega
          go_wp2
          go_loopw [10] (fun i wq => ∃ (j : Nat) (lv : Value), j ≤ 5 ∧ i = .int .i64 j ∧ BlkO wq (w.heap.size + 1 + 1 + 1) 27 (lcsA (w.heap.size + 1 + 1) ((wire : Int) % 11) (.slice ra 4 rc) lv) ∧ wq.ownsRow w4.heap.size 40 2 lv (5 * n + j) (pntC (linA (5 * n + j))) ∧ XyAt wq w3.heap.size (xsA n j) ∧ XyAt wq (w3.heap.size + 1) (ysA n j) ∧ Chg (fun b => b = (w.heap.size + 1 + 1 + 1) ∨ b = w3.heap.size ∨ b = w3.heap.size + 1) w4 wq) (fun i _ => 5 - (intOf i).toNat)
          case atStart => exact ⟨0, _, by omega, rfl, HBT.out, HRW.out, HX.out, HY.out, HC.out⟩
          case round =>
            obtain ⟨j, lv, hj, rfl, hbt, hrow, hxx, hyy, hc⟩ := hrel
            obtain ⟨w6, rfl⟩ : ∃ y, y = wr := ⟨_, rfl⟩
            clear HBT HRW HX HY HC
            have HBT := Lib.hid hbt
            have HRW := Lib.hid hrow
            have HX := Lib.hid hxx
            have HY := Lib.hid hyy
            have HC := Lib.hid hc
            clear hbt hrow hxx hyy hc
            by_cases hlj : j < 5
            · have hlj' : (j : Int) < 5 := by omega
              have HNX : Hid (pntC (linA (5 * n + j + 1)) = pntC (linA (5 * n + j)) ++ [.int .i64 (xA n j), .int .i64 (yA n j)]) := Lib.hid (by rw [linA_succ hlj, pntC_snoc])
              have HXS : Hid ((xsA n j).set j (yA n j) = xsA n (j + 1)) := Lib.hid (xsA_step hlj)
              have HYS5 : Hid ((ysA n j).set j (-xA n j) = ysA n (j + 1)) := Lib.hid (ysA_step hlj)
              have HXJ : Hid ((xsA n j)[j]? = some (xA n j)) := Lib.hid (xsA_at hlj)
              have HYJ : Hid ((ysA n j)[j]? = some (yA n j)) := Lib.hid (ysA_at hlj)
              obtain ⟨hx0, hx1⟩ := xA_in hlt hlj
              obtain ⟨xs, hxs⟩ : ∃ y, pntC (linA (5 * n + j)) = y := ⟨_, rfl⟩
              rw [hxs] at HRW HNX
              clear hxs
              obtain ⟨px, hpx⟩ : ∃ y, xA n j = y := ⟨_, rfl⟩
              obtain ⟨py, hpy⟩ : ∃ y, yA n j = y := ⟨_, rfl⟩
              rw [hpx] at HNX HYS5 HXJ hx0 hx1
              rw [hpy] at HNX HXS HYJ
              clear hpx hpy
              obtain ⟨la, lc, rfl⟩ := own_shape HRW.out
              have HSZ : Hid (w4.heap.size ≤ w6.heap.size) := Lib.hid HC.out.size
              have hnx : ∀ o, ¬ ApX (w.heap.size + 1 + 1 + 1) w4.heap.size w3.heap.size o := apX_not (by have := HK3.out; omega) (by rw [HS4.out]; omega)
              have hny : ∀ o, ¬ ApX (w.heap.size + 1 + 1 + 1) w4.heap.size (w3.heap.size + 1) o := apX_not (by have := HK3.out; omega) (by rw [HS4.out]; omega)
              have px0 := HX.out.cell HXJ.out
              have py0 := HY.out.cell HYJ.out
              have hxl := (BlkO.blk HX.out).lt
              have hyl := (BlkO.blk HY.out).lt
              obtain ⟨m, hm⟩ : ∃ y, 5 * n + j = y := ⟨_, rfl⟩
              have HM := Lib.hid hm
              have hm25 : m ≤ 25 := by omega
              rw [hm] at HRW HNX HBT
              clear hm
              go_upto_region 13 with fail
              refine wp_region_lat (by kernel_rfl) (ApX (w.heap.size + 1 + 1 + 1) w4.heap.size) (fun k => (k == 1) || ((k == 9) || ((k == 10) || (k == 12)))) (RAp m (.slice la m lc) 1 9 10) (GAp (w.heap.size + 1 + 1 + 1) 27 (lcsA (w.heap.size + 1 + 1) ((wire : Int) % 11) (.slice ra 4 rc)) w4.heap.size 40 m (.slice la m lc) xs (.int .i64 px) (.int .i64 py) 9 10 12) (by kernel_rfl)
                (fun k hk => by
                  simp only [Bool.or_eq_true, beq_iff_eq] at hk
                  rcases hk with rfl | rfl | rfl | rfl <;> decide)
                (fun L L' u w' h hg => hg.congr (h 9 rfl) (h 10 rfl) (h 12 rfl) rfl rfl) (fun L u a b h hx => h.ext hx) (wAp m (.slice la m lc) 1 9) (fun k _ => wAp_ok (by decide) (by decide) (by decide) _ _ k) ⟨HBT.out.ext (Ext.refl w6).drew, fun _ => own_chg HRW.out ((Ext.refl w6).drew.chg fun _ => False) fun _ _ => id, fun h => absurd h (by decide), fun h => absurd h (by decide)⟩ ?_
              intro T hT hne2 u hu
              have e_1 : u 1 = (.slice la m lc) := (hu 1 rfl).1 rfl
              obtain ⟨b9, e_9⟩ := (hu 9 rfl).2.1 rfl
              obtain ⟨a10, c10, e_10⟩ := (hu 10 rfl).2.2 rfl
              refine lx_next 1 (by rfl) (by decide) ?_
              dsimp only [List.take, List.drop]
              repeat (go_big_quiet_step (fail))
              refine wpQuiet_nil ?_
              refine lx_loud (by rfl) (by kernel_rfl) ?_ (fun K hK => ?_)
              · intro L w4 hL hd hcl hC hs
                obtain ⟨y, rfl⟩ := hC
                have d12 := hcl.off hL 40 12 (by kernel_rfl)
                have hb := hs.brd
                rw [d12] at hb
                have r0 := hb.blk.cell 3 (v := (.slice la m lc)) rfl
                have rl := hb.blk.lt
                have HS := Lib.hid hs
                clear hs hd hcl hL d12 hb
                go_wp2
                exact ⟨⟨fun _ => rfl, fun h => absurd h (by decide), fun h => absurd h (by decide)⟩, ⟨y, rfl⟩, HS.out.congr rfl rfl rfl rfl rfl⟩
              rw [e_1]
              go_simp
              with_reducible refine hK _ ?_
              clear hK K
              refine lx_next 7 (by rfl) (by decide) ?_
              dsimp only [List.take, List.drop]
              repeat (go_big_quiet_step (fail))
              refine wpQuiet_nil ?_
              refine lx_loud (by rfl) (by kernel_rfl) ?_ (fun K hK => ?_)
              · intro L w4 hL hd hcl hC hs
                obtain ⟨y, rfl⟩ := hC
                have HS := Lib.hid hs
                clear hs hd hcl hL
                go_wp2
                have h := HS.out.ext ((Ext.refl y.world).alloc (.cells #[(.int .i64 px), (.int .i64 py)] 40))
                exact ⟨⟨fun h => absurd h (by decide), fun _ => ⟨_, rfl⟩, fun h => absurd h (by decide)⟩, ⟨y.ext ((Ext.refl _).alloc _), rfl⟩, ⟨h.brd, h.row, fun _ _ => ⟨_, rfl, Blk.new y.world _ _⟩, h.row'⟩⟩
              rw [e_9]
              go_simp
              with_reducible refine hK _ ?_
              clear hK K
              refine lx_loud (by rfl) (by kernel_rfl) ?_ (fun K hK => ?_)
              · intro L w4 hL hd hcl hC hs
                obtain ⟨y, rfl⟩ := hC
                have d12 := hcl.off hL 40 12 (by kernel_rfl)
                have hb := hs.brd
                rw [d12] at hb
                have hb : BlkO y.world (w.heap.size + 1 + 1 + 1) 27 ((lcsA (w.heap.size + 1 + 1) ((wire : Int) % 11) (.slice ra 4 rc)) (.slice la m lc)) := hb
                obtain ⟨bb9, e9, hbc⟩ := hs.box (hd 9 (by kernel_rfl)) hL
                obtain rfl : b9 = bb9 := by rw [e_9] at e9; cases e9; rfl
                have HRW := Lib.hid (hs.row hL)
                have HBC := Lib.hid hbc
                have HB := Lib.hid hb
                have D12 := Lib.hid d12
                have HYS : Hid (w4.heap.size ≤ y.world.heap.size) := Lib.hid (Nat.le_trans HSZ.out y.size)
                clear hs hd hcl hL d12 hb e9 hbc
                go_wp2_with (at_builtin; refine wp_append_from rfl _ _ 24 40 _ 2 16 rfl info_pntA (by kernel_rfl) rfl (by decide) w4.heap.size (.slice la m lc) m xs rfl HRW.out (some ⟨b9, 0, none⟩) 1 1 [(.int .i64 px), (.int .i64 py)] rfl (fun h => by cases h) rfl ?_ ?_ (by omega) (by omega) HYS.out ?_)
                · intro ad had j' u hj
                  cases had
                  match j', hj with
                  | 0, hj => cases hj; rw [addr_add]; exact HBC.out.cell 0 rfl
                  | 1, hj => cases hj; rw [addr_add]; exact HBC.out.cell 1 rfl
                · intro u hu
                  simp only [List.mem_cons, List.not_mem_nil, or_false] at hu
                  rcases hu with rfl | rfl <;> rfl
                intro v' w6 hO6 hg6 hn6
                obtain ⟨va, vc, rfl⟩ := own_shape hO6
                have HB6 := Lib.hid (HB.out.chg hg6 (fun e => HB.out.ne HRW.out (by decide) _ e rfl))
                have HO6 := Lib.hid hO6
                have HG6 := Lib.hid hg6
                clear hO6 hg6 hn6
                go_wp2
                exact ⟨⟨fun h => absurd h (by decide), fun h => absurd h (by decide), fun _ => ⟨_, _, rfl⟩⟩, ⟨y.chgd HG6.out (fun b hb => .inr fun _ => .inr (World.ownsRow.lt HRW.out b hb).1), rfl⟩, ⟨by show BlkO _ _ _ ((lcsA (w.heap.size + 1 + 1) ((wire : Int) % 11) (.slice ra 4 rc)) (bif L 12 then _ else _)); rw [D12.out]; exact HB6.out, fun h => Bool.noConfusion (show true = false from h), fun _ h => Bool.noConfusion (show true = false from h), fun _ => HO6.out⟩⟩
              rw [e_10]
              go_simp
              with_reducible refine hK _ ?_
              clear hK K
              refine lx_next 1 (by rfl) (by decide) ?_
              dsimp only [List.take, List.drop]
              repeat (go_big_quiet_step (fail))
              refine wpQuiet_nil ?_
              refine lx_loud (by rfl) (by kernel_rfl) ?_ (fun K hK => ?_)
              · intro L w4 hL hd hcl hC hs
                obtain ⟨y, rfl⟩ := hC
                have h10 := hd 10 (by kernel_rfl)
                have hb := hs.brd
                rw [hL] at hb
                have hb : BlkO y.world (w.heap.size + 1 + 1 + 1) 27 ((lcsA (w.heap.size + 1 + 1) ((wire : Int) % 11) (.slice ra 4 rc)) (.slice la m lc)) := hb
                have hr' := hs.row' h10
                rw [e_10] at hr'
                have r0 := hb.blk.cell 3 (v := (.slice la m lc)) rfl
                have rf := hb.blk.frozen 3
                have rl := hb.blk.lt
                have HB := Lib.hid hb
                have HRP := Lib.hid hr'
                have H10 := Lib.hid h10
                clear hs hd hcl hL h10 hb hr'
                go_wp2
                have hC : Chg (· = (w.heap.size + 1 + 1 + 1)) y.world (y.world.setCell ⟨(w.heap.size + 1 + 1 + 1), 3, none⟩ (.slice a10 (m + 1) c10)) := (Chg.refl (· = (w.heap.size + 1 + 1 + 1)) y.world).setCell (.inr (show (fun x => x = (w.heap.size + 1 + 1 + 1)) ((w.heap.size + 1 + 1 + 1)) from rfl)) _
                have h10 := H10.out
                exact ⟨⟨fun h => absurd h (by decide), fun h => absurd h (by decide), fun h => absurd h (by decide)⟩, ⟨y.chgd hC (fun b hb => .inr fun _ => .inl hb), rfl⟩, ⟨by show BlkO _ _ _ ((lcsA (w.heap.size + 1 + 1) ((wire : Int) % 11) (.slice ra 4 rc)) (bif upd L 12 12 then u 10 else _)); rw [show upd L 12 12 = true from rfl, e_10]; exact HB.out.set 3 _, (fun h => by have h : L 10 = false := h; rw [h10] at h; cases h), (fun _ h => by have h : L 10 = false := h; rw [h10] at h; cases h), fun _ => by show World.ownsRow _ _ _ _ (u 10) _ _; rw [e_10]; exact own_chg HRP.out hC (HB.out.ne HRP.out (by decide))⟩⟩
              go_simp
              with_reducible refine hK _ ?_
              clear hK K
              refine lx_nil ?_
              intro y hs
              have hb := hs.brd
              have hb : BlkO y.world (w.heap.size + 1 + 1 + 1) 27 ((lcsA (w.heap.size + 1 + 1) ((wire : Int) % 11) (.slice ra 4 rc)) (u 10)) := hb
              have hr' := hs.row' rfl
              rw [e_10] at hb hr'
              have HBN := Lib.hid hb
              have HRN := Lib.hid hr'
              have HCN := Lib.hid y.chg
              clear hs hb hr' hu hT hne2 e_1 e_9 e_10
              generalize y.world = w11 at *
              clear y
              have HX11 : Hid (XyAt w11 w3.heap.size (xsA n j)) := Lib.hid (BlkO.chg HX.out HCN.out (by rintro ⟨o, h⟩; exact hnx o h))
              have HY11 : Hid (XyAt w11 (w3.heap.size + 1) (ysA n j)) := Lib.hid (BlkO.chg HY.out HCN.out (by rintro ⟨o, h⟩; exact hny o h))
              have HC11 := Lib.hid (HC.out.after HCN.out (by rintro i hi ⟨o, h⟩; exact h.elim .inl (fun h => absurd hi (by omega))))
              clear hnx hny px0 py0 hxl hyl HX HY HC HCN HBT HRW
              go_upto_region 14 with fail
              refine wp_region_lat (by kernel_rfl) (fun b _ => b = w3.heap.size ∨ b = (w3.heap.size + 1)) (fun k => (k == 4) || ((k == 7) || ((k == 10) || (k == 12)))) (RsIs [(4, .int .i64 py), (7, .int .i64 px)]) (fun L _ W => GXy w3.heap.size (w3.heap.size + 1) (xsA n j) (xsA n (j + 1)) (ysA n j) (ysA n (j + 1)) L W) (by kernel_rfl)
                (fun k hk => by
                  simp only [Bool.or_eq_true, beq_iff_eq] at hk
                  rcases hk with rfl | rfl | rfl | rfl <;> decide)
                (fun L L' u w' h hg => by unfold GXy at *; rw [h 10 rfl, h 12 rfl]; exact hg) (fun L u a b h hx => ⟨BlkO.ext h.1 hx, BlkO.ext h.2 hx⟩) (rsW [(4, .int .i64 py), (7, .int .i64 px)]) (fun k _ => rsW_ok _ k) ⟨BlkO.ext HX11.out (Ext.refl w11).drew, BlkO.ext HY11.out (Ext.refl w11).drew⟩ ?_
              intro T hT hne2 u hu
              have e_4 : u 4 = .int .i64 py := hu 4 rfl
              have e_7 : u 7 = .int .i64 px := hu 7 rfl
              refine lx_next 4 (by rfl) (by decide) ?_
              dsimp only [List.take, List.drop]
              repeat (go_big_quiet_step (fail))
              refine wpQuiet_nil ?_
              refine lx_loud (by rfl) (by kernel_rfl) ?_ (fun K hK => ?_)
              · intro L w4x hL hd hcl hC hs
                obtain ⟨y, rfl⟩ := hC
                have d := hcl.off hL 40 12 (by kernel_rfl)
                have h2 := hs.2
                rw [d] at h2
                have h2 : XyAt y.world (w3.heap.size + 1) (ysA n j) := h2
                have r0 := h2.cell HYJ.out
                have rl := (BlkO.blk h2).lt
                have HS := Lib.hid hs
                clear hs hd hcl hL d h2
                go_wp2
                exact ⟨rfl, ⟨y, rfl⟩, HS.out⟩
              rw [e_4]
              go_simp
              with_reducible refine hK _ ?_
              clear hK K
              refine lx_next 2 (by rfl) (by decide) ?_
              dsimp only [List.take, List.drop]
              repeat (go_big_quiet_step (fail))
              refine wpQuiet_nil ?_
              refine lx_loud (by rfl) (by kernel_rfl) ?_ (fun K hK => ?_)
              · intro L w4x hL hd hcl hC hs
                obtain ⟨y, rfl⟩ := hC
                have d := hcl.off hL 40 10 (by kernel_rfl)
                have h2 := hs.1
                rw [d] at h2
                have h2 : XyAt y.world w3.heap.size (xsA n j) := h2
                have r0 := h2.cell HXJ.out
                have rl := (BlkO.blk h2).lt
                have HS := Lib.hid hs
                clear hs hd hcl hL d h2
                go_wp2
                exact ⟨rfl, ⟨y, rfl⟩, HS.out⟩
              rw [e_7]
              go_simp
              with_reducible refine hK _ ?_
              clear hK K
              refine lx_next 2 (by rfl) (by decide) ?_
              dsimp only [List.take, List.drop]
              repeat (go_big_quiet_step (fail))
              refine wpQuiet_nil ?_
              refine lx_loud (by rfl) (by kernel_rfl) ?_ (fun K hK => ?_)
              · intro L w4x hL hd hcl hC hs
                obtain ⟨y, rfl⟩ := hC
                have d12 := hcl.off hL 40 12 (by kernel_rfl)
                have h1 := hs.1
                rw [hL] at h1
                have h1 : XyAt y.world w3.heap.size (xsA n j) := h1
                have h2 := hs.2
                rw [d12] at h2
                have h2 : XyAt y.world (w3.heap.size + 1) (ysA n j) := h2
                have r0 := h1.cell HXJ.out
                have rf := (BlkO.blk h1).frozen j
                have rl := (BlkO.blk h1).lt
                have H1 := Lib.hid h1
                have H2 := Lib.hid h2
                have D12 := Lib.hid d12
                clear hs hd hcl hL d12 h1 h2
                go_wp2
                have hC : Chg (· = w3.heap.size) y.world (y.world.setCell ⟨w3.heap.size, j, none⟩ (.int .i64 py)) := (Chg.refl (· = w3.heap.size) y.world).setCell (.inr (show (fun x => x = w3.heap.size) (w3.heap.size) from rfl)) _
                refine ⟨trivial, ⟨y.chgd hC (fun b hb => .inr fun _ => .inl hb), rfl⟩, ?_, ?_⟩
                · show XyAt _ w3.heap.size (bif upd L 10 10 then _ else _)
                  rw [show upd L 10 10 = true from rfl, cond_true, ← HXS.out]
                  exact H1.out.set j py
                · show XyAt _ (w3.heap.size + 1) (bif upd L 10 12 then _ else _)
                  rw [show upd L 10 12 = L 12 from rfl, D12.out]
                  exact BlkO.chg H2.out hC (by intro e; omega)
              go_simp
              with_reducible refine hK _ ?_
              clear hK K
              refine lx_next 1 (by rfl) (by decide) ?_
              dsimp only [List.take, List.drop]
              repeat (go_big_quiet_step (fail))
              refine wpQuiet_nil ?_
              refine lx_loud (by rfl) (by kernel_rfl) ?_ (fun K hK => ?_)
              · intro L w4x hL hd hcl hC hs
                obtain ⟨y, rfl⟩ := hC
                have d10 := hd 10 (by kernel_rfl)
                have h1 := hs.1
                rw [d10] at h1
                have h1 : XyAt y.world w3.heap.size (xsA n (j + 1)) := h1
                have h2 := hs.2
                rw [hL] at h2
                have h2 : XyAt y.world (w3.heap.size + 1) (ysA n j) := h2
                have r0 := h2.cell HYJ.out
                have rf := (BlkO.blk h2).frozen j
                have rl := (BlkO.blk h2).lt
                have H1 := Lib.hid h1
                have H2 := Lib.hid h2
                have D10 := Lib.hid d10
                clear hs hd hcl hL d10 h1 h2
                go_wp2
                have hC : Chg (· = (w3.heap.size + 1)) y.world (y.world.setCell ⟨(w3.heap.size + 1), j, none⟩ (.int .i64 (-px))) := (Chg.refl (· = (w3.heap.size + 1)) y.world).setCell (.inr (show (fun x => x = (w3.heap.size + 1)) (w3.heap.size + 1) from rfl)) _
                refine ⟨trivial, ⟨y.chgd hC (fun b hb => .inr fun _ => .inr hb), rfl⟩, ?_, ?_⟩
                · show XyAt _ w3.heap.size (bif upd L 12 10 then _ else _)
                  rw [show upd L 12 10 = L 10 from rfl, D10.out]
                  exact BlkO.chg H1.out hC (by intro e; omega)
                · show XyAt _ (w3.heap.size + 1) (bif upd L 12 12 then _ else _)
                  rw [show upd L 12 12 = true from rfl, cond_true, ← HYS5.out]
                  exact H2.out.set j (-px)
              go_simp
              with_reducible refine hK _ ?_
              clear hK K
              refine lx_nil ?_
              intro y hs
              have h1 : XyAt y.world w3.heap.size (xsA n (j + 1)) := hs.1
              have h2 : XyAt y.world (w3.heap.size + 1) (ysA n (j + 1)) := hs.2
              have H1 := Lib.hid h1
              have H2 := Lib.hid h2
              have HCM := Lib.hid y.chg
              clear hs h1 h2 hu hT hne2 e_4 e_7 HX11 HY11
              generalize y.world = w12 at *
              clear y
              have HB12 := Lib.hid (HBN.out.chg HCM.out (by rintro ⟨o, h⟩; have := HK3.out; omega))
              have HR12 := Lib.hid (own_chg HRN.out HCM.out (by rintro q hq ⟨o, h⟩; have h9 := (World.ownsRow.lt HRN.out q hq).1; have := HS4.out; omega))
              have HC12 := Lib.hid (HC11.out.after HCM.out (by rintro i hi ⟨o, h⟩; exact .inr h))
              clear HBN HRN HC11 HCM
              go_wp2
              go_roundw
              case rel => exact ⟨j + 1, _, by omega, by go_num, HB12.out, by rw [show 5 * n + (j + 1) = m + 1 from by rw [← HM.out]; rfl, HNX.out]; exact HR12.out, H1.out, H2.out, HC12.out⟩
              case measure => simp [intOf]; omega
            · obtain rfl : j = 5 := by omega
              go_wp2
              go_roundw
              case rel => exact ⟨n + 1, _, by omega, by go_num, HBT.out, HRW.out, HX.out, HY.out, HC.out⟩
              case measure => simp [intOf]; omega
        · obtain rfl : n = 4 := by omega
          obtain ⟨la, lc, rfl⟩ := own_shape HRW.out
          have HR5 := Lib.hid (HR4.out.chg HC.out (by intro e; have := HS1.out; have := HSZ3.out; omega))
          have HN5 := Lib.hid (HN4.out.chg HC.out (by intro e; have := HS1.out; have := HSZ3.out; omega))
          have HRW5 := Lib.hid (own_chg HRW4.out HC.out (by
            rintro q hq h
            have h1 := World.ownsRow.lt HRW4.out q hq
            have h2 := HRLT.out q hq
            have h3 := HK3.out
            have h4 := HS1.out
            omega))
          have HX5 := Lib.hid (Chg.to_ext HX4.out HC.out (by rintro q h; have := HK3.out; omega))
          have b0 := HBT.out.blk.cell 0 (v := .int .i64 64) rfl
          have b1 := HBT.out.blk.cell 1 (v := .int .i64 159) rfl
          have b2 := HBT.out.blk.cell 2 (v := .slice ra 4 rc) rfl
          have b3 := HBT.out.blk.cell 3 (v := .slice la (5 * 4) lc) rfl
          have b4 := HBT.out.blk.cell 4 (v := .slice (some ⟨(w.heap.size + 1 + 1), 0, none⟩) 20 20) rfl
          have b5 := HBT.out.blk.cell 5 (v := .int .i64 ((wire : Int) % 11)) rfl
          have bl := HBT.out.blk.lt
          have c0 := HR5.out.cell 0 (v := .int .i64 0) rfl
          have c1 := HR5.out.cell 1 (v := .int .i64 0) rfl
          have c2 := HR5.out.cell 2 (v := .slice none 0 0) rfl
          have c3 := HR5.out.cell 3 (v := .slice none 0 0) rfl
          have c4 := HR5.out.cell 4 (v := .slice none 0 0) rfl
          have c5 := HR5.out.cell 5 (v := .int .i64 0) rfl
          have g0 := HR5.out.frozen 0
          have g1 := HR5.out.frozen 1
          have g2 := HR5.out.frozen 2
          have g3 := HR5.out.frozen 3
          have g4 := HR5.out.frozen 4
          have g5 := HR5.out.frozen 5
          have cl := HR5.out.lt
          go_wp2
          generalize hW : (((((w5.setCell ⟨w.heap.size + 1, 0, none⟩ (.int .i64 64)).setCell ⟨w.heap.size + 1, 1, none⟩ (.int .i64 159)).setCell ⟨w.heap.size + 1, 2, none⟩ (.slice ra 4 rc)).setCell ⟨w.heap.size + 1, 3, none⟩ (.slice la 20 lc)).setCell ⟨w.heap.size + 1, 4, none⟩ (.slice (some ⟨w.heap.size + 1 + 1, 0, none⟩) 20 20)).setCell ⟨w.heap.size + 1, 5, none⟩ (.int .i64 ((wire : Int) % 11)) = wE
          have hBE : Blk wE (w.heap.size + 1) #[.int .i64 64, .int .i64 159, .slice ra 4 rc, .slice la 20 lc, .slice (some ⟨w.heap.size + 1 + 1, 0, none⟩) 20 20, .int .i64 ((wire : Int) % 11)] := by
            rw [← hW]
            exact (((((HR5.out.set 0 _).set 1 _).set 2 _).set 3 _).set 4 _).set 5 _
          have hCE : Chg (· = w.heap.size + 1) w5 wE := by
            rw [← hW]
            exact ((((((Chg.refl (· = w.heap.size + 1) w5).setCell (.inr rfl) _).setCell (.inr rfl) _).setCell (.inr rfl) _).setCell (.inr rfl) _).setCell (.inr rfl) _).setCell (.inr rfl) _
          have d0 := hBE.cell 0 (v := .int .i64 64) rfl
          have d1 := hBE.cell 1 (v := .int .i64 159) rfl
          have d2 := hBE.cell 2 (v := .slice ra 4 rc) rfl
          have d3 := hBE.cell 3 (v := .slice la 20 lc) rfl
          have d4 := hBE.cell 4 (v := .slice (some ⟨w.heap.size + 1 + 1, 0, none⟩) 20 20) rfl
          have d5 := hBE.cell 5 (v := .int .i64 ((wire : Int) % 11)) rfl
          have e1 := HS1.out
          have e3 := HSZ3.out
          have e4 := HS4.out
          refine bodyPost_ret (v := .agg #[.int .i64 64, .int .i64 159, .slice ra 4 rc, .slice la 20 lc, .slice (some ⟨w.heap.size + 1 + 1, 0, none⟩) 20 20, .int .i64 ((wire : Int) % 11)]) (by simp [results, Try.results6, go_sem, d0, d1, d2, d3, d4, d5]) rfl ⟨⟨ra, la, some ⟨w.heap.size + 1 + 1, 0, none⟩, rc, lc, 20⟩, rfl, ⟨?_, ?_, ?_, rfl⟩, Chg.to_ext HX5.out hCE (by rintro q rfl; omega)⟩
          · exact own_mono (own_chg HRW5.out hCE (by rintro q hq e; have := (HRLT.out q hq).1; omega)) (by omega)
          · exact own_mono (own_chg HRW.out hCE (by rintro q hq e; have := (World.ownsRow.lt HRW.out q hq).1; omega)) (by omega)
          · exact ⟨w.heap.size + 1 + 1, rfl, by omega, HN5.out.chg hCE (by intro e; omega)⟩
end Go.Proofs.Ytpifdeglhalefaa
