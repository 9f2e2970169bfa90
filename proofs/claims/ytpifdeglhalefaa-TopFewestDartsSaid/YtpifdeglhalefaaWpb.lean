/-
  The statements' helpers: pubByte, pubBeds.
-/
import Derived.Test.YtpifdeglhalefaaWpa
import Derived.Test.YtpifdeglhalefaaOwb
import Derived.Test.YtpifdeglhalefaaArr
namespace Go.Proofs.Ytpifdeglhalefaa
open Go.RowKit Go.BigFrame
attribute [local go_sem] Later.cell Later.frozen
def bytW (l : List Int) (i : Nat) : Int := l.getD (i % l.length) 0
theorem pub_Byte (l : List Int) (a : Option Addr) (c i : Nat) (w : World) (h : CellsAt w .u8 a l) (hl : l.length ≤ 9223372036854775807) (hr : ∀ x ∈ l, 0 ≤ x ∧ x ≤ 255) (hi : i ≤ 1000000) :
    Calls Try.prog 15 #[.slice a l.length c, .int .i64 i] w fun e w' => e = .returned (.int .i64 (bytW l i)) ∧ Ext w w' := by
  by_cases h0 : l.length = 0
  · have hb : bytW l i = 0 := by
      have := List.length_eq_zero_iff.1 h0
      subst this
      rfl
    rw [h0, hb]
    go_enter Try.func15, Try.ntmps15
    go_wp2
    go_ret
    exact ⟨rfl, Ext.refl _⟩
  · have hp : 0 < l.length := by omega
    have hml := Nat.mod_lt i hp
    obtain ⟨b, o, rfl, h1⟩ := h (i % l.length) hml
    have hl1 := lt_of_cell h1
    simp only at hl1
    have hbw : bytW l i = l[i % l.length] := by
      unfold bytW
      rw [List.getD_eq_getElem?_getD, List.getElem?_eq_getElem hml]
      rfl
    have hrx := hr _ (List.getElem_mem hml)
    rw [hbw]
    obtain ⟨x, hx⟩ : ∃ y, l[i % l.length] = y := ⟨_, rfl⟩
    rw [hx] at h1 hrx ⊢
    obtain ⟨n, hn⟩ : ∃ y, l.length = y := ⟨_, rfl⟩
    rw [hn] at h1 hp hl hml ⊢
    have hmod : (i : Int) % (n : Int) = ((i % n : Nat) : Int) := by push_cast; rfl
    obtain ⟨j, hj⟩ : ∃ y, i % n = y := ⟨_, rfl⟩
    rw [hj] at hmod hml h1
    clear hj hbw hx hn h0
    have hnz : ((n : Int) == 0) = false := by simp; omega
    have hjn : (j : Int) < (n : Int) := by omega
    have hp' : (0 : Int) < (n : Int) := by omega
    obtain ⟨hx0, hx1⟩ := hrx
    go_enter Try.func15, Try.ntmps15
    go_wp2
    go_ret
    exact ⟨rfl, Ext.refl _⟩
/-- The bed of a number. -/
def bedN (n : Int) : Int := if 240 ≤ n then 125 + 100 * (n % 2) else 100 * (1 + n % 3) + 1 + n / 3 % 20
theorem bedN_nat {n : Int} (_h : 0 ≤ n ∧ n ≤ 255) : ∃ z : Nat, bedN n = (z : Int) ∧ z < 500 := by
  have : 0 ≤ bedN n ∧ bedN n < 500 := by
    unfold bedN
    split <;> omega
  exact ⟨(bedN n).toNat, by omega, by omega⟩
theorem bedN_bed {n : Int} (h : 0 ≤ n ∧ n ≤ 255) : isBedB (bedN n) = true := by
  obtain ⟨m, rfl⟩ := Int.eq_ofNat_of_zero_le h.1
  have : ∀ m < 256, isBedB (bedN (m : Nat)) = true := by decide +kernel
  exact this m (by omega)
theorem bytW_in {l : List Int} (hr : ∀ x ∈ l, 0 ≤ x ∧ x ≤ 255) (i : Nat) : 0 ≤ bytW l i ∧ bytW l i ≤ 255 := by
  unfold bytW
  rw [List.getD_eq_getElem?_getD]
  cases h : l[i % l.length]? with
  | none => simp
  | some x => exact hr x (List.mem_of_getElem? h)
def mrkN (l : List Int) (k : Nat) : List Int := (List.range k).map fun i => bedN (bytW l i)
theorem mrkN_succ (l : List Int) (k : Nat) : mrkN l (k + 1) = mrkN l k ++ [bedN (bytW l k)] := by unfold mrkN; rw [List.range_succ, List.map_append]; rfl
def cntN (l : List Int) (most : Nat) : Nat := max 1 (min l.length most)
def setW (S : List Int) (j : Nat) : List Int := ((List.range j).filter fun (i : Nat) => S.contains (i : Int)).map fun (i : Nat) => (i : Int)
theorem setW_succ (S : List Int) (j : Nat) : setW S (j + 1) = setW S j ++ (if S.contains (j : Int) = true then [(j : Int)] else []) := by
  unfold setW
  rw [List.range_succ, List.filter_append, List.map_append]
  by_cases h : S.contains (j : Int) = true
  · simp only [List.filter_cons, h, if_true, List.filter_nil, List.map_cons, List.map_nil]
  · simp only [List.filter_cons, h, List.filter_nil]
    simp
theorem setW_len (S : List Int) (j : Nat) : (setW S j).length ≤ j := by
  unfold setW
  rw [List.length_map]
  exact Nat.le_trans (List.length_filter_le _ _) (by simp)
/-- The beds of a list of numbers. -/
def pbL (l : List Int) (most : Nat) : List Int := setW (mrkN l (cntN l most)) 500
theorem info_bedW : (Try.prog.info? 33).map (fun i => (i.zero, i.size, i.bytes)) = some (some (.int .i64 0), 1, 8) := by kernel_rfl
set_option maxRecDepth 100000 in
set_option maxHeartbeats 8000000 in
theorem pub_Beds (l : List Int) (a : Option Addr) (c most : Nat) (w : World) (h : CellsAt w .u8 a l) (hl : l.length ≤ 9223372036854775807) (hr : ∀ x ∈ l, 0 ≤ x ∧ x ≤ 255) (hm : 1 ≤ most ∧ most ≤ 100) :
    Calls Try.prog 14 #[.slice a l.length c, .int .i64 most] w fun e w' => ∃ u, e = .returned u ∧ w'.ownsRow w.heap.size 33 1 u (pbL l most).length ((pbL l most).map (Value.int .i64)) ∧ Ext w w' := by
  have HB := Lib.hid (fun W (hx : Ext w W) (i : Nat) (hi : i ≤ 1000000) => pub_Byte l a c i W (h.ext hx) hl hr hi)
  have HBI := Lib.hid (fun i => bytW_in hr i)
  have HMS := Lib.hid (mrkN_succ l)
  have HM0 := Lib.hid (show mrkN l 0 = [] from rfl)
  have hpb : pbL l most = setW (mrkN l (cntN l most)) 500 := rfl
  have hcn : cntN l most = max 1 (min l.length most) := rfl
  obtain ⟨mk, hmk⟩ : ∃ y, mrkN l = y := ⟨_, rfl⟩
  obtain ⟨N, hN⟩ : ∃ y, cntN l most = y := ⟨_, rfl⟩
  rw [hmk] at HMS HM0 hpb
  rw [hN] at hpb hcn
  rw [hpb]
  obtain ⟨n, hn⟩ : ∃ y, l.length = y := ⟨_, rfl⟩
  rw [hn] at HB hcn hl ⊢
  obtain ⟨by_, hby⟩ : ∃ y, bytW l = y := ⟨_, rfl⟩
  simp only [hby] at HB HBI HMS
  have hN1 : 1 ≤ N ∧ N ≤ 100 := by omega
  obtain ⟨hN1, hN100⟩ := hN1
  have HCN := Lib.hid hcn
  clear h hr hpb hmk hN hn hby hcn
  go_enter Try.func14, Try.ntmps14
  have hst := run_zero_seen (w.alloc (.cells #[] 33))
  rw [show (w.alloc (.cells #[] 33)).heap.size = w.heap.size + 1 by simp] at hst
  go_upto_region 3 with fail
  obtain ⟨hsn1, hX4⟩ := zero_seen (w.alloc (.cells #[] 33))
  rw [show (w.alloc (.cells #[] 33)).heap.size = w.heap.size + 1 by simp] at hsn1 hX4
  have hoe := own_chg (own_empty (w := w) (base := w.heap.size) (size := 1) (e := 33) rfl (Nat.le_refl _)) (hX4.chg fun _ => False) fun _ _ => fun a => a
  generalize ((w.alloc (.cells #[] 33)).alloc (.cells Try.zeroCells110 110)).setCells (w.heap.size + 1) 0 Try.zeroCells110.toList = w2 at *
  have HK0 := Lib.hid hsn1
  have HX2 := Lib.hid (((Ext.refl w).alloc (.cells #[] 33)).trans hX4)
  have HOE := Lib.hid hoe
  clear hsn1 hX4 hoe hst
  go_loopw [7] (fun iv wr => ∃ k : Nat, k ≤ N ∧ iv = .int .i64 k ∧ Blk wr (w.heap.size + 1) (markC (mk k)) ∧ Chg (· = w.heap.size + 1) w2 wr) (fun iv _ => N - (intOf iv).toNat)
  case atStart => exact ⟨0, by omega, rfl, by rw [HM0.out]; exact HK0.out, Chg.refl _ _⟩
  case round =>
    obtain ⟨k, hk, rfl, hM, hC⟩ := hrel
    obtain ⟨w4, rfl⟩ : ∃ y, y = wr := ⟨_, rfl⟩
    have HMk := Lib.hid hM
    have HCk := Lib.hid hC
    have HXk := Lib.hid (Chg.to_ext HX2.out hC (by rintro q rfl; omega))
    clear hM hC
    by_cases hlt : k < N
    · have hN100 : N ≤ 100 := by omega
      by_cases hk0 : k = 0
      · have hk0' : ((k : Int) == 0) = true := by simpa using hk0
        clear hk0
        go_wp2_with fail
        refine (HB.out _ HXk.out k (by omega)).mono ?_
        rintro e w5 ⟨rfl, hx5⟩
        have HM5 := Lib.hid (HMk.out.ext hx5)
        have HC5 := Lib.hid (HCk.out.ext' hx5)
        clear hx5
        obtain ⟨z, hz, hz5⟩ := bedN_nat (HBI.out k)
        have HZ := Lib.hid hz
        have HMSk := Lib.hid (HMS.out k)
        obtain ⟨hx0, hx1⟩ := HBI.out k
        obtain ⟨x, hx⟩ : ∃ y, by_ k = y := ⟨_, rfl⟩
        rw [hx] at hz hx0 hx1 HZ HMSk ⊢
        clear hx
        unfold bedN at hz
        by_cases h240 : 240 ≤ x
        · rw [if_pos h240] at hz
          have HZ2 := Lib.hid hz
          clear hz
          go_upto_region 9 with fail
          rw [HZ2.out]
          have m0 := HM5.out.cell z (markC_get _ hz5)
          have m1 := HM5.out.frozen z
          have m2 := HM5.out.lt
          go_wp2
          have hM' := HM5.out.set z (.bool true)
          rw [markC_set _ hz5, ← HZ.out, ← HMSk.out] at hM'
          have HM' := Lib.hid hM'
          have HC' := Lib.hid (HC5.out.setCell (p := ⟨w.heap.size + 1, z, none⟩) (.inr rfl) (.bool true))
          clear hM' m0 m1 m2
          go_roundw
          case rel => exact ⟨k + 1, by omega, by go_num, HM'.out, HC'.out⟩
          case measure => simp [intOf]; omega
        · rw [if_neg h240] at hz
          have HZ2 := Lib.hid hz
          clear hz
          go_upto_region 9 with fail
          rw [HZ2.out]
          have m0 := HM5.out.cell z (markC_get _ hz5)
          have m1 := HM5.out.frozen z
          have m2 := HM5.out.lt
          go_wp2
          have hM' := HM5.out.set z (.bool true)
          rw [markC_set _ hz5, ← HZ.out, ← HMSk.out] at hM'
          have HM' := Lib.hid hM'
          have HC' := Lib.hid (HC5.out.setCell (p := ⟨w.heap.size + 1, z, none⟩) (.inr rfl) (.bool true))
          clear hM' m0 m1 m2
          go_roundw
          case rel => exact ⟨k + 1, by omega, by go_num, HM'.out, HC'.out⟩
          case measure => simp [intOf]; omega
      · have hk0' : ((k : Int) == 0) = false := by simpa using hk0
        have hkn : (k : Int) < (n : Int) := by have := HCN.out; omega
        have hkm : (k : Int) < (most : Int) := by have := HCN.out; omega
        go_wp2_with fail
        refine (HB.out _ HXk.out k (by omega)).mono ?_
        rintro e w5 ⟨rfl, hx5⟩
        have HM5 := Lib.hid (HMk.out.ext hx5)
        have HC5 := Lib.hid (HCk.out.ext' hx5)
        clear hx5
        obtain ⟨z, hz, hz5⟩ := bedN_nat (HBI.out k)
        have HZ := Lib.hid hz
        have HMSk := Lib.hid (HMS.out k)
        obtain ⟨hx0, hx1⟩ := HBI.out k
        obtain ⟨x, hx⟩ : ∃ y, by_ k = y := ⟨_, rfl⟩
        rw [hx] at hz hx0 hx1 HZ HMSk ⊢
        clear hx
        unfold bedN at hz
        by_cases h240 : 240 ≤ x
        · rw [if_pos h240] at hz
          have HZ2 := Lib.hid hz
          clear hz
          go_upto_region 9 with fail
          rw [HZ2.out]
          have m0 := HM5.out.cell z (markC_get _ hz5)
          have m1 := HM5.out.frozen z
          have m2 := HM5.out.lt
          go_wp2
          have hM' := HM5.out.set z (.bool true)
          rw [markC_set _ hz5, ← HZ.out, ← HMSk.out] at hM'
          have HM' := Lib.hid hM'
          have HC' := Lib.hid (HC5.out.setCell (p := ⟨w.heap.size + 1, z, none⟩) (.inr rfl) (.bool true))
          clear hM' m0 m1 m2
          go_roundw
          case rel => exact ⟨k + 1, by omega, by go_num, HM'.out, HC'.out⟩
          case measure => simp [intOf]; omega
        · rw [if_neg h240] at hz
          have HZ2 := Lib.hid hz
          clear hz
          go_upto_region 9 with fail
          rw [HZ2.out]
          have m0 := HM5.out.cell z (markC_get _ hz5)
          have m1 := HM5.out.frozen z
          have m2 := HM5.out.lt
          go_wp2
          have hM' := HM5.out.set z (.bool true)
          rw [markC_set _ hz5, ← HZ.out, ← HMSk.out] at hM'
          have HM' := Lib.hid hM'
          have HC' := Lib.hid (HC5.out.setCell (p := ⟨w.heap.size + 1, z, none⟩) (.inr rfl) (.bool true))
          clear hM' m0 m1 m2
          go_roundw
          case rel => exact ⟨k + 1, by omega, by go_num, HM'.out, HC'.out⟩
          case measure => simp [intOf]; omega
    · have hkN : k = N := by omega
      have hk0' : ((k : Int) == 0) = false := by simp; omega
      rw [hkN] at HMk
      have HOE4 : Hid (w4.ownsRow w.heap.size 33 1 (.slice (some ⟨w.heap.size, 0, none⟩) 0 0) 0 []) := Lib.hid (own_chg HOE.out HCk.out (fun q hq e => by
        simp only [Value.ownBlock, Option.some.injEq] at hq
        omega))
      have hno : ¬ ((k : Int) < (n : Int) ∧ (k : Int) < (most : Int)) := by have := HCN.out; omega
      clear hkN HCk HMS HM0 HB HBI HOE HK0
      by_cases hkn : (k : Int) < (n : Int)
      · have hkm : ¬ (k : Int) < (most : Int) := fun h => hno ⟨hkn, h⟩
        go_upto_region 11 with fail
        clear hkn hkm hno
        go_loopw [6, 10] (fun lv iv wr => ∃ j : Nat, j ≤ 500 ∧ iv = .int .i64 j ∧ wr.ownsRow w.heap.size 33 1 lv (setW (mk N) j).length ((setW (mk N) j).map (Value.int .i64)) ∧ (∀ q, lv.ownBlock = some q → ¬ q = w.heap.size + 1) ∧ Blk wr (w.heap.size + 1) (markC (mk N)) ∧ Ext w wr) (fun _ iv _ => 500 - (intOf iv).toNat)
        case atStart => exact ⟨0, by omega, rfl, HOE4.out, (fun q hq e => by simp only [Value.ownBlock, Option.some.injEq] at hq; omega), HMk.out, HXk.out⟩
        case round =>
          rename_i lv iv
          obtain ⟨j, hj, rfl, ho, hne, hM, hx⟩ := hrel
          obtain ⟨w5, rfl⟩ : ∃ y, y = wr := ⟨_, rfl⟩
          clear HOE4 HMk HXk
          have HO := Lib.hid ho
          have HNE := Lib.hid hne
          have HM5 := Lib.hid hM
          have HX5 := Lib.hid hx
          obtain ⟨oa, oc, rfl⟩ := own_shape ho
          clear ho hne hM hx
          by_cases hj5 : j < 500
          · have hsu := setW_succ (mk N) j
            have hsl := setW_len (mk N) j
            have m0 := HM5.out.cell j (markC_get _ hj5)
            have m2 := HM5.out.lt
            obtain ⟨L, hL⟩ : ∃ y, setW (mk N) j = y := ⟨_, rfl⟩
            rw [hL] at hsu hsl HO HNE ⊢
            obtain ⟨nL, hnL⟩ : ∃ y, L.length = y := ⟨_, rfl⟩
            rw [hnL] at hsl HO HNE ⊢
            have HNL := Lib.hid hnL
            clear hL hnL
            have hj5' : (j : Int) < 500 := by omega
            cases hcb : (mk N).contains (j : Int)
            · rw [hcb] at m0 hsu
              rw [if_neg (by simp), List.append_nil] at hsu
              have HSU := Lib.hid hsu
              clear hsu hcb
              go_wp2
              go_roundw
              case rel =>
                refine ⟨j + 1, by omega, by go_num, ?_, (fun q hq => HNE.out q hq), HM5.out, HX5.out⟩
                rw [HSU.out]
                rw [HNL.out]
                exact HO.out
              case measure => simp [intOf]; omega
            · rw [hcb] at m0 hsu
              rw [if_pos rfl] at hsu
              have HSU := Lib.hid hsu
              clear hsu hcb
              have hal : Ext w5 (w5.alloc (.cells #[.int .i64 j] 33)) := (Ext.refl _).alloc _
              have HOA := Lib.hid (own_chg HO.out (hal.chg fun _ => False) fun _ _ => fun a => a)
              have HXA := Lib.hid (HX5.out.trans hal)
              have HMA := Lib.hid (HM5.out.ext hal)
              have HS := Lib.hid HXA.out.size
              go_wp2_with (at_builtin; refine wp_append_from rfl _ _ 52 33 _ 1 8 rfl info_bedW (by kernel_rfl) rfl (by decide) w.heap.size (.slice oa nL oc) nL (L.map (Value.int .i64)) rfl HOA.out (some ⟨w5.heap.size, 0, none⟩) 1 1 [.int .i64 j] rfl (fun h => by cases h) rfl ?_ ?_ (by omega) (by omega) HS.out ?_)
              · intro ad had j' u hj
                cases had
                match j', hj with
                | 0, hj => cases hj; rw [addr_add]; exact (Blk.new w5 _ _).cell 0 rfl
              · intro u hu
                simp only [List.mem_cons, List.not_mem_nil, or_false] at hu
                rcases hu with rfl
                rfl
              intro v6 w6 hO6 hg6 hn6
              obtain ⟨oa2, oc2, rfl⟩ := own_shape hO6
              have HO6 := Lib.hid hO6
              have HM6 := Lib.hid (HMA.out.chg hg6 (fun e => HNE.out (w.heap.size + 1) e rfl))
              have HX6 := Lib.hid (Chg.to_ext HXA.out hg6 (fun q hq => (World.ownsRow.lt HOA.out q hq).1))
              have HNE6 : Hid (∀ q, (Value.slice oa2 (nL + 1) oc2).ownBlock = some q → ¬ q = w.heap.size + 1) := Lib.hid (fun q hq e => by
                rcases hn6 q hq with h | h
                · exact HNE.out q h e
                · have := HM5.out.lt
                  omega)
              clear hO6 hg6 hn6 hal HOA HXA HMA HS
              go_wp2
              go_roundw
              case rel =>
                refine ⟨j + 1, by omega, by go_num, ?_, HNE6.out, HM6.out, HX6.out⟩
                rw [HSU.out]
                rw [List.length_append, HNL.out, List.map_append]
                exact HO6.out
              case measure => simp [intOf]; omega
          · have hj5 : j = 500 := by omega
            rw [hj5] at HO ⊢
            clear hj5
            go_wp2
            go_ret
            exact ⟨_, rfl, HO.out, HX5.out⟩
      · go_upto_region 11 with fail
        clear hkn hno
        go_loopw [6, 10] (fun lv iv wr => ∃ j : Nat, j ≤ 500 ∧ iv = .int .i64 j ∧ wr.ownsRow w.heap.size 33 1 lv (setW (mk N) j).length ((setW (mk N) j).map (Value.int .i64)) ∧ (∀ q, lv.ownBlock = some q → ¬ q = w.heap.size + 1) ∧ Blk wr (w.heap.size + 1) (markC (mk N)) ∧ Ext w wr) (fun _ iv _ => 500 - (intOf iv).toNat)
        case atStart => exact ⟨0, by omega, rfl, HOE4.out, (fun q hq e => by simp only [Value.ownBlock, Option.some.injEq] at hq; omega), HMk.out, HXk.out⟩
        case round =>
          rename_i lv iv
          obtain ⟨j, hj, rfl, ho, hne, hM, hx⟩ := hrel
          obtain ⟨w5, rfl⟩ : ∃ y, y = wr := ⟨_, rfl⟩
          clear HOE4 HMk HXk
          have HO := Lib.hid ho
          have HNE := Lib.hid hne
          have HM5 := Lib.hid hM
          have HX5 := Lib.hid hx
          obtain ⟨oa, oc, rfl⟩ := own_shape ho
          clear ho hne hM hx
          by_cases hj5 : j < 500
          · have hsu := setW_succ (mk N) j
            have hsl := setW_len (mk N) j
            have m0 := HM5.out.cell j (markC_get _ hj5)
            have m2 := HM5.out.lt
            obtain ⟨L, hL⟩ : ∃ y, setW (mk N) j = y := ⟨_, rfl⟩
            rw [hL] at hsu hsl HO HNE ⊢
            obtain ⟨nL, hnL⟩ : ∃ y, L.length = y := ⟨_, rfl⟩
            rw [hnL] at hsl HO HNE ⊢
            have HNL := Lib.hid hnL
            clear hL hnL
            have hj5' : (j : Int) < 500 := by omega
            cases hcb : (mk N).contains (j : Int)
            · rw [hcb] at m0 hsu
              rw [if_neg (by simp), List.append_nil] at hsu
              have HSU := Lib.hid hsu
              clear hsu hcb
              go_wp2
              go_roundw
              case rel =>
                refine ⟨j + 1, by omega, by go_num, ?_, (fun q hq => HNE.out q hq), HM5.out, HX5.out⟩
                rw [HSU.out]
                rw [HNL.out]
                exact HO.out
              case measure => simp [intOf]; omega
            · rw [hcb] at m0 hsu
              rw [if_pos rfl] at hsu
              have HSU := Lib.hid hsu
              clear hsu hcb
              have hal : Ext w5 (w5.alloc (.cells #[.int .i64 j] 33)) := (Ext.refl _).alloc _
              have HOA := Lib.hid (own_chg HO.out (hal.chg fun _ => False) fun _ _ => fun a => a)
              have HXA := Lib.hid (HX5.out.trans hal)
              have HMA := Lib.hid (HM5.out.ext hal)
              have HS := Lib.hid HXA.out.size
              go_wp2_with (at_builtin; refine wp_append_from rfl _ _ 52 33 _ 1 8 rfl info_bedW (by kernel_rfl) rfl (by decide) w.heap.size (.slice oa nL oc) nL (L.map (Value.int .i64)) rfl HOA.out (some ⟨w5.heap.size, 0, none⟩) 1 1 [.int .i64 j] rfl (fun h => by cases h) rfl ?_ ?_ (by omega) (by omega) HS.out ?_)
              · intro ad had j' u hj
                cases had
                match j', hj with
                | 0, hj => cases hj; rw [addr_add]; exact (Blk.new w5 _ _).cell 0 rfl
              · intro u hu
                simp only [List.mem_cons, List.not_mem_nil, or_false] at hu
                rcases hu with rfl
                rfl
              intro v6 w6 hO6 hg6 hn6
              obtain ⟨oa2, oc2, rfl⟩ := own_shape hO6
              have HO6 := Lib.hid hO6
              have HM6 := Lib.hid (HMA.out.chg hg6 (fun e => HNE.out (w.heap.size + 1) e rfl))
              have HX6 := Lib.hid (Chg.to_ext HXA.out hg6 (fun q hq => (World.ownsRow.lt HOA.out q hq).1))
              have HNE6 : Hid (∀ q, (Value.slice oa2 (nL + 1) oc2).ownBlock = some q → ¬ q = w.heap.size + 1) := Lib.hid (fun q hq e => by
                rcases hn6 q hq with h | h
                · exact HNE.out q h e
                · have := HM5.out.lt
                  omega)
              clear hO6 hg6 hn6 hal HOA HXA HMA HS
              go_wp2
              go_roundw
              case rel =>
                refine ⟨j + 1, by omega, by go_num, ?_, HNE6.out, HM6.out, HX6.out⟩
                rw [HSU.out]
                rw [List.length_append, HNL.out, List.map_append]
                exact HO6.out
              case measure => simp [intOf]; omega
          · have hj5 : j = 500 := by omega
            rw [hj5] at HO ⊢
            clear hj5
            go_wp2
            go_ret
            exact ⟨_, rfl, HO.out, HX5.out⟩
end Go.Proofs.Ytpifdeglhalefaa
