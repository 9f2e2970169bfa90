/-
  Package board: All.
-/
import Derived.Test.YtimhjdloiicbkaaBoZ
namespace Go.Proofs.Ytimhjdloiicbkaa
open Go.RowKit Go.BigFrame
attribute [local go_sem] Later.cell Later.frozen run_makeMap_plain
theorem run_addD {w : World} {b : Nat} {l : List Int} (hs : SetD w b l) (hl : l.length ≤ 1000000) {p : Int} (hp : I64 p) :
    ∃ w', (Instr.mapUpdate 65 (.map (some b)) (.int .i64 p) (.bool true)).run Try.prog w = .ok () w' ∧ SetD w' b (l ++ [p]) ∧ w.grownBy w' (some b) := by
  obtain ⟨n, D, ho, hn, ht, hsz, hat, hli⟩ := hs
  obtain ⟨w', h1, h2, h3⟩ := ho.update keyed_bed under_bset (by unfold maxLen; omega) (key_bed hp) (plainElem_bool under_bool true)
  exact ⟨w', h1, SetD.addD hp h2 hn ht hsz hat hli, h3⟩
def ringL (nums : List Int) (f : Int) : List Int := if 0 < f then nums.map fun n => 100 * f + n else []
def ringTo (nums : List Int) (f : Int) (j : Nat) : List Int := ringL (nums.take j) f
theorem ringTo_add (nums : List Int) (f : Int) (j : Nat) (h : j < nums.length) (hf : 0 < f) : ringTo nums f (j + 1) = ringTo nums f j ++ [100 * f + nums[j]] := by
  unfold ringTo ringL
  rw [if_pos hf, if_pos hf, List.take_succ_eq_append_getElem h, List.map_append]; rfl
theorem ringTo_not (nums : List Int) (f : Int) (j k : Nat) (hf : ¬ 0 < f) : ringTo nums f j = ringTo nums f k := by
  unfold ringTo ringL
  rw [if_neg hf, if_neg hf]
theorem ringTo_all (nums : List Int) (f : Int) (j : Nat) (h : nums.length ≤ j) : ringTo nums f j = ringL nums f := by
  unfold ringTo
  rw [List.take_of_length_le h]
theorem ringTo_zero (nums : List Int) (f : Int) : ringTo nums f 0 = [] := by
  unfold ringTo ringL
  split <;> simp
theorem ringTo_len (nums : List Int) (f : Int) (j : Nat) : (ringTo nums f j).length ≤ nums.length := by
  unfold ringTo ringL
  split
  · simp; omega
  · simp
def allTo (b : Brd) (k : Nat) : List Int := [125, 225] ++ (b.rings.take k).flatMap fun r => ringL b.nums r.factor
def allM (b : Brd) : List Int := allTo b b.rings.length
def allR (b : Brd) : List Int × Int := if errB b ≠ 0 then ([], errB b) else (setL (allM b), 0)
theorem allTo_succ (b : Brd) (k : Nat) (h : k < b.rings.length) : allTo b (k + 1) = allTo b k ++ ringL b.nums b.rings[k].factor := by
  unfold allTo
  rw [List.take_succ_eq_append_getElem h, List.flatMap_append, List.append_assoc]
  simp
theorem ringL_len (nums : List Int) (f : Int) : (ringL nums f).length ≤ nums.length := by
  unfold ringL; split <;> simp
theorem allTo_len (b : Brd) : ∀ k, (allTo b k).length ≤ 2 + k * b.nums.length
  | 0 => by simp [allTo]
  | k + 1 => by
    rcases Nat.lt_or_ge k b.rings.length with h | h
    · rw [allTo_succ b k h, List.length_append, Nat.succ_mul]
      have := allTo_len b k
      have := ringL_len b.nums b.rings[k].factor
      omega
    · have e : allTo b (k + 1) = allTo b k := by unfold allTo; rw [List.take_of_length_le (by omega), List.take_of_length_le h]
      rw [e, Nat.succ_mul]
      have := allTo_len b k
      omega
theorem allTo_small {b : Brd} (hg : GoodB b) (k : Nat) : ∀ x ∈ allTo b k, 0 ≤ x ∧ x < 500 := by
  intro x hx
  unfold allTo at hx
  rcases List.mem_append.1 hx with h | h
  · simp at h; omega
  · obtain ⟨r, hr, hx⟩ := List.mem_flatMap.1 h
    have hf := hg.fac r (List.mem_of_mem_take hr)
    unfold ringL at hx
    split at hx
    · obtain ⟨n, hn, rfl⟩ := List.mem_map.1 hx
      have := hg.num n hn
      omega
    · cases hx
set_option maxRecDepth 100000 in
set_option maxHeartbeats 4000000 in
theorem brd_All (v : BrdV) (b : Brd) (w : World) (h : BrdAt w v b) (hs : SmallB b) :
    Calls Try.prog 6 #[.agg (v.cells b)] w fun e w' => ∃ u, e = .returned (.tuple #[u, .int .i64 (allR b).2]) ∧ OwnZ w' w.heap.size u (allR b).1 ∧ Ext w w' := by
  have HO := Lib.hid (fun W (hx : Ext w W) => brd_open v b W (h.ext hx) hs)
  have HG := Lib.hid (errB_good hs)
  have HB := Lib.hid h
  have HLB := Lib.hid (fun (h0 : errB b = 0) => (show b.rings.length ≤ 8 ∧ b.nums.length ≤ 20 by
    have hl : longB b = false := by
      unfold errB at h0
      cases hl : longB b
      · rfl
      · rw [if_pos hl] at h0; cases h0
    simp only [longB, Bool.or_eq_false_iff, decide_eq_false_iff_not] at hl
    omega))
  have HST := Lib.hid (allTo_succ b)
  have HSL := Lib.hid (allTo_len b)
  have HSM := Lib.hid (fun h0 => allTo_small (errB_good hs h0))
  obtain ⟨q0, q1, hr⟩ : ∃ q0 q1, allR b = (q0, q1) := ⟨_, _, rfl⟩
  have HR := Lib.hid hr
  rw [hr]
  obtain ⟨er, herr⟩ : ∃ er, errB b = er := ⟨_, rfl⟩
  rw [herr] at HO HLB HSM HG
  have HER := Lib.hid herr
  have HA0 := Lib.hid (show allTo b 0 = [125, 225] by simp [allTo])
  have HAE := Lib.hid (show allTo b b.rings.length = allM b from rfl)
  obtain ⟨at', hat⟩ : ∃ f, f = allTo b := ⟨_, rfl⟩
  rw [← hat] at HST HSL HSM HA0 HAE
  obtain ⟨eye, bull, rings, lines, nums, wire⟩ := b
  obtain ⟨ra, la, na, rc, lc, nc⟩ := v
  unfold BrdV.cells at *
  simp only at HO HST HSL HSM HLB HAE ⊢
  clear h hs hr herr hat
  go_enter Try.func6, Try.ntmps6
  go_wp2_with fail
  refine (HO.out _ ((Ext.refl w).alloc _)).mono ?_
  rintro e w1 ⟨rfl, hx1⟩
  have HX1 := Lib.hid (((Ext.refl w).alloc (.cells #[.int .i64 eye, .int .i64 bull, .slice ra rings.length rc, .slice la lines.length lc, .slice na nums.length nc, .int .i64 wire] 29)).trans hx1)
  have hbb : Blk w1 w.heap.size #[.int .i64 eye, .int .i64 bull, .slice ra rings.length rc, .slice la lines.length lc, .slice na nums.length nc, .int .i64 wire] := (Blk.new _ _ _).ext hx1
  have HBB := Lib.hid hbb
  have m2 := hbb.cell 2 (v := .slice ra rings.length rc) rfl
  have m4 := hbb.cell 4 (v := .slice na nums.length nc) rfl
  have hml := hbb.lt
  clear hx1 hbb
  by_cases h0 : er = 0
  case neg =>
    have e : (q0, q1) = ([], er) := by rw [← HR.out]; unfold allR; rw [HER.out, if_pos h0]
    obtain ⟨rfl, rfl⟩ : q0 = [] ∧ q1 = er := by simpa using e
    have h0' : (q1 != 0) = true := by simpa using h0
    clear e m2 m4
    go_wp2
    refine bodyPost_ret (v := .tuple #[.slice none 0 0, .int .i64 q1]) (by simp [results, Try.results6, go_sem]) rfl ⟨_, rfl, World.ownsRow_nil _ _ _ _, HX1.out.alloc _⟩
  subst h0
  have e : (q0, q1) = (setL (allM ⟨eye, bull, rings, lines, nums, wire⟩), 0) := by rw [← HR.out]; unfold allR; rw [HER.out, if_neg (by simp)]
  obtain ⟨e0, rfl⟩ : q0 = setL (allM ⟨eye, bull, rings, lines, nums, wire⟩) ∧ q1 = 0 := by simpa using e
  have HQ0 := Lib.hid e0
  obtain ⟨hl8, hl20⟩ := HLB.out (by trivial)
  clear e e0
  obtain ⟨w2, hw2⟩ : ∃ x, x = (w1.alloc (.cells #[.int .i64 eye, .int .i64 bull, .slice ra rings.length rc, .slice la lines.length lc, .slice na nums.length nc, .int .i64 wire] 62)).alloc (.map #[] 0) := ⟨_, rfl⟩
  have hx2 : Ext w1 w2 := by rw [hw2]; exact ((Ext.refl w1).alloc _).alloc _
  have hs2 : SetD w2 (w1.heap.size + 1) [] := by rw [hw2]; exact SetD.made (by simp)
  obtain ⟨w3, hr3, hs3, hg3⟩ := run_addD hs2 (by simp) (p := 125) ⟨by omega, by omega⟩
  obtain ⟨w4, hr4, hs4, hg4⟩ := run_addD hs3 (by simp) (p := 225) ⟨by omega, by omega⟩
  have hc34 : Chg (· = w1.heap.size + 1) w2 w4 := ((grown_chg hg3).mono fun k _ e => by cases e; rfl).trans ((grown_chg hg4).mono fun k _ e => by cases e; rfl)
  have hx4 : Ext w1 w4 := Chg.to_ext hx2 hc34 (by rintro i rfl; omega)
  have HX4 := Lib.hid hx4
  have HS4 := Lib.hid (show SetD w4 (w1.heap.size + 1) (at' 0) by rw [HA0.out]; exact hs4)
  rw [hw2] at hr3
  replace m2 := hx4.cell m2
  replace m4 := hx4.cell m4
  have hml4 : w.heap.size < w4.heap.size := Nat.lt_of_lt_of_le hml hx4.size
  clear hw2 hx2 hs2 hs3 hg3 hs4 hg4 hc34 hx4
  go_wp2_with fail
  have hgood := HG.out (by trivial)
  have HFAC := Lib.hid hgood.fac
  have HNUM := Lib.hid hgood.num
  clear hgood
  go_loopw [24] (fun i wr => ∃ k : Nat, k ≤ rings.length ∧ i = .int .i64 k ∧ SetD wr (w1.heap.size + 1) (at' k) ∧ Chg (· = w1.heap.size + 1) w4 wr) (fun i _ => rings.length - (intOf i).toNat)
  case atStart => exact ⟨0, Nat.zero_le _, rfl, HS4.out, Chg.refl _ _⟩
  case round =>
    obtain ⟨k, hk, rfl, hS, hC⟩ := hrel
    have HSk := Lib.hid hS
    have HCk := Lib.hid hC
    clear hS hC
    have hne1 : w.heap.size ≠ w1.heap.size + 1 := by omega
    obtain ⟨wo, rfl⟩ : ∃ x, x = wr := ⟨_, rfl⟩
    by_cases hlt : k < rings.length
    · obtain ⟨rb, ro, rfl, r0, r1⟩ := HB.out.rings k hlt
      have hrb := lt_of_cell r0
      simp only at hrb r0 r1
      replace r0 := HCk.out.cell (HX4.out.cell (HX1.out.cell r0)) (by show ¬ (rb = w1.heap.size + 1); have := HX1.out.size; omega)
      replace r1 := HCk.out.cell (HX4.out.cell (HX1.out.cell r1)) (by show ¬ (rb = w1.heap.size + 1); have := HX1.out.size; omega)
      have hrb' := lt_of_cell r0
      simp only at hrb'
      have n4 := HCk.out.cell m4 (by exact hne1)
      have hnl := lt_of_cell n4
      simp only at hnl
      have hf0 := HFAC.out rings[k] (List.getElem_mem _)
      have HSTk := Lib.hid (HST.out k hlt)
      have HLk := Lib.hid (HSL.out k)
      generalize rings[k] = rg at *
      obtain ⟨outer, f⟩ := rg
      simp only at r0 r1 hf0 HSTk
      have hmul : k * nums.length ≤ 8 * 20 := Nat.mul_le_mul (by omega) hl20
      obtain ⟨wa, hwa⟩ : ∃ x, x = wo.alloc (.cells #[.int .i64 outer, .int .i64 f] 32) := ⟨_, rfl⟩
      have hxa : Ext wo wa := by rw [hwa]; exact (Ext.refl wo).alloc _
      have hba : Blk wa wo.heap.size #[.int .i64 outer, .int .i64 f] := by rw [hwa]; exact Blk.new _ _ _
      have HSa := Lib.hid (HSk.out.ext hxa)
      have HCa := Lib.hid (HCk.out.ext' hxa)
      have HBa := Lib.hid hba
      have na4 := hxa.cell n4
      have hwrm := HSk.out.lt
      clear hxa hba
      go_wp2
      rw [← hwa]
      clear hwa
      go_loopw [31] (fun i wq => ∃ j : Nat, j ≤ nums.length ∧ i = .int .i64 j ∧ SetD wq (w1.heap.size + 1) (at' k ++ ringTo nums f j) ∧ Chg (· = w1.heap.size + 1) wa wq) (fun i _ => nums.length - (intOf i).toNat)
      case atStart => exact ⟨0, Nat.zero_le _, rfl, by rw [ringTo_zero, List.append_nil]; exact HSa.out, Chg.refl _ _⟩
      case round =>
        obtain ⟨j, hj, rfl, hS, hC⟩ := hrel
        have HSj := Lib.hid hS
        have HCj := Lib.hid hC
        have HBj := Lib.hid (HBa.out.chg hC (by show ¬ (wo.heap.size = w1.heap.size + 1); omega))
        clear hS hC
        have f1 := HBj.out.cell 1 (v := .int .i64 f) rfl
        have hfl := HBj.out.lt
        by_cases hlj : j < nums.length
        · obtain ⟨nb, no, rfl, c0⟩ := HB.out.nums j hlj
          have hnb := lt_of_cell c0
          simp only at hnb c0
          have hsz1 := HX1.out.size
          replace c0 := HCj.out.cell (HCa.out.cell (HX4.out.cell (HX1.out.cell c0)) (by show ¬ (nb = w1.heap.size + 1); omega)) (by show ¬ (nb = w1.heap.size + 1); omega)
          have hnb' := lt_of_cell c0
          simp only at hnb'
          have hn0 := HNUM.out nums[j] (List.getElem_mem _)
          have HLj := Lib.hid (show (at' k ++ ringTo nums f j).length ≤ 1000000 by
            rw [List.length_append]
            have := HLk.out
            have := ringTo_len nums f j
            omega)
          by_cases hf : 0 < f
          · have HADD := Lib.hid (ringTo_add nums f j hlj hf)
            generalize nums[j] = x at *
            obtain ⟨pl, hpl⟩ : ∃ pl, at' k ++ ringTo nums f j = pl := ⟨_, rfl⟩
            rw [hpl] at HSj HLj
            have HPL := Lib.hid hpl
            clear hpl
            go_wp2_with (at_mapUpdate; refine wp_addD rfl _ _ _ rfl (w1.heap.size + 1) pl (100 * f + x) rfl HSj.out HLj.out ⟨by omega, by omega⟩ rfl rfl ?_)
            intro wz hSz hgz
            have HSz := Lib.hid (show SetD wz (w1.heap.size + 1) (at' k ++ ringTo nums f (j + 1)) by rw [HADD.out, ← List.append_assoc, HPL.out]; exact hSz)
            have HCz := Lib.hid (HCj.out.trans ((grown_chg hgz).mono fun k _ e => by cases e; rfl))
            clear hSz hgz
            go_wp2
            go_roundw
            case rel => exact ⟨j + 1, by omega, by go_num, HSz.out, HCz.out⟩
            case measure => simp [intOf]; omega
          · have HNOT := Lib.hid (ringTo_not nums f j (j + 1) hf)
            generalize nums[j] = x at *
            rw [HNOT.out] at HSj
            go_wp2
            go_roundw
            case rel => exact ⟨j + 1, by omega, by go_num, HSj.out, HCj.out⟩
            case measure => simp [intOf]; omega
        · have HSn := Lib.hid (show SetD _ (w1.heap.size + 1) (at' (k + 1)) by rw [HSTk.out, ← ringTo_all nums f j (by omega)]; exact HSj.out)
          go_wp2
          go_roundw
          case rel => exact ⟨k + 1, by omega, by go_num, HSn.out, HCa.out.trans HCj.out⟩
          case measure => simp [intOf]; omega
    · obtain rfl : k = rings.length := by omega
      have HXk := Lib.hid (Chg.to_ext (HX1.out.trans HX4.out) HCk.out (by rintro i rfl; have := HX1.out.size; omega))
      have HSO := Lib.hid (sorted_call (w1.heap.size + 1) (at' rings.length) wo HSk.out (by
        have := HSL.out rings.length
        have hmul : rings.length * nums.length ≤ 8 * 20 := Nat.mul_le_mul hl8 hl20
        omega) (HSM.out (by trivial) rings.length))
      rw [HAE.out, ← HQ0.out] at HSO
      go_wp2_with fail
      refine (keys_call (some (w1.heap.size + 1)) wo).mono ?_
      rintro e W1 ⟨rfl, rfl⟩
      go_wp2_with fail
      refine HSO.out.mono ?_
      rintro e W2 ⟨u, rfl, hO, hx2⟩
      obtain ⟨ua, uc, rfl, -⟩ := hO.cells
      have HO2 := Lib.hid (show OwnZ W2 w.heap.size (.slice ua q0.length uc) q0 from own_mono hO HXk.out.size)
      have HX2 := Lib.hid (HXk.out.trans hx2)
      clear hO hx2
      go_wp2
      refine bodyPost_ret (v := .tuple #[.slice ua q0.length uc, .int .i64 0]) (by simp [results, Try.results6, go_sem]) rfl ⟨_, rfl, HO2.out, HX2.out⟩
end Go.Proofs.Ytimhjdloiicbkaa
