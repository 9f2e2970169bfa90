/-
  TopTurnedOff: the walk.
-/
import Derived.Test.YtpifdeglhalefaaToi
import Derived.Test.YtpifdeglhalefaaObh
import Derived.Test.YtpifdeglhalefaaOao
import Derived.Test.YtpifdeglhalefaaSen
namespace Go.Proofs.Ytpifdeglhalefaa
open Go.RowKit Go.BigFrame
attribute [local go_sem] Later.cell Later.frozen
/-- The cells at an address read as pairs of numbers of 16 bits. -/
def PtsU (w : World) (a : Option Addr) (l : List (Nat × Nat)) : Prop := ∀ i, (h : i < l.length) → ∃ b o, a = some ⟨b, o, none⟩ ∧ w.cell? ⟨b, o + i * 2, none⟩ = some (.int .u16 (l[i].1 : Int)) ∧ w.cell? ⟨b, o + i * 2 + 1, none⟩ = some (.int .u16 (l[i].2 : Int)) ∧ l[i].1 < 65536 ∧ l[i].2 < 65536
theorem PtsU.ext {w w' : World} {a : Option Addr} {l : List (Nat × Nat)} (h : PtsU w a l) (hx : Ext w w') : PtsU w' a l := fun i hi => let ⟨b, o, e, h1, h2, h3⟩ := h i hi; ⟨b, o, e, hx.cell h1, hx.cell h2, h3⟩
def facT : Nat → Nat
  | 0 => 1
  | 1 => 3
  | 2 => 1
  | 3 => 2
  | _ => 0
theorem cellsT (v : BrdV) (f : Nat → Nat) (k : Nat) (h : k < 20) : v.cells (turnA f k) = #[.int .i64 64, .int .i64 159, .slice v.ra 4 v.rc, .slice v.la 20 v.lc, .slice v.na 20 v.nc, .int .i64 0] := by
  unfold BrdV.cells turnA
  simp only [linA_len, turnL_len' k h]
  rfl
theorem cellsA0 (v : BrdV) (f : Nat → Nat) : v.cells (armB f 0) = #[.int .i64 64, .int .i64 159, .slice v.ra 4 v.rc, .slice v.la 20 v.lc, .slice v.na 20 v.nc, .int .i64 0] := by
  rw [cellsA]
  rfl
/-- What a round has of darts: as good on both boards, all valid. -/
structure DrtS (xs ys : List Toss) : Prop where
  rank : xs.map Toss.rank = ys.map Toss.rank
  okx : ∀ o ∈ xs, o.ok = true ∧ I64 o.bed
  oky : ∀ o ∈ ys, o.ok = true ∧ I64 o.bed
theorem DrtS.nil : DrtS [] [] := ⟨rfl, (by intro o h; cases h), (by intro o h; cases h)⟩
theorem DrtS.snoc {xs ys : List Toss} {x y : Toss} (h : DrtS xs ys) (h1 : x.rank = y.rank) (h2 : x.ok = true ∧ I64 x.bed) (h3 : y.ok = true ∧ I64 y.bed) : DrtS (xs ++ [x]) (ys ++ [y]) := by
  refine ⟨by rw [List.map_append, List.map_append, h.rank]; simp [h1], fun o ho => ?_, fun o ho => ?_⟩
  · rcases List.mem_append.1 ho with ho | ho
    · exact h.okx o ho
    · rw [List.mem_singleton] at ho; rw [ho]; exact h2
  · rcases List.mem_append.1 ho with ho | ho
    · exact h.oky o ho
    · rw [List.mem_singleton] at ho; rw [ho]; exact h3
/-- How the first throw stands after some rounds. -/
structure OffT (n k : Nat) (rest : List Int) (one two : List (List Toss)) : Prop where
  len1 : one.length = k
  len2 : two.length = k
  pos : 1 ≤ rest.length
  le : rest.length ≤ n
  off : offW (upto n) one = .inl rest
  rank : one.map (fun r => r.map Toss.rank) = two.map (fun r => r.map Toss.rank)
  okx : ∀ r ∈ one, ∀ o ∈ r, o.ok = true ∧ I64 o.bed
  oky : ∀ r ∈ two, ∀ o ∈ r, o.ok = true ∧ I64 o.bed
theorem OffT.nil (n : Nat) (h : 1 ≤ n) : OffT n 0 (upto n) [] [] := ⟨rfl, rfl, by rw [upto_length]; exact h, by rw [upto_length]; exact Nat.le_refl _, rfl, rfl, (by intro r h; cases h), (by intro r h; cases h)⟩
theorem OffT.snoc {n k : Nat} {rest : List Int} {one two : List (List Toss)} {xs ys : List Toss} (h : OffT n k rest one two) (h1 : rest.length ≠ 1) (hl : xs.length = rest.length) (hd : DrtS xs ys) : OffT n (k + 1) (bestW (leastT xs) rest xs) (one ++ [xs]) (two ++ [ys]) := by
  refine ⟨by rw [List.length_append, h.len1]; rfl, by rw [List.length_append, h.len2]; rfl, ?_, Nat.le_trans (bestW_length _ _ _) h.le, offW_snoc one (upto n) rest xs h.off h1 hl (fun o ho => (hd.okx o ho).1), ?_, ?_, ?_⟩
  · exact bestW_ne _ _ _ hl.symm (leastT_attained (by have := h.pos; omega))
  · rw [List.map_append, List.map_append, h.rank]
    simp [hd.rank]
  · intro r hr
    rcases List.mem_append.1 hr with hr | hr
    · exact h.okx r hr
    · rw [List.mem_singleton] at hr; rw [hr]; exact hd.okx
  · intro r hr
    rcases List.mem_append.1 hr with hr | hr
    · exact h.oky r hr
    · rw [List.mem_singleton] at hr; rw [hr]; exact hd.oky
theorem bedR_ok {b : Brd} {d : Pt} (he : errB b = 0) (hd : ptB d = true) : bedR b d = (bedB b d, onWire b d, 0) := by
  unfold bedR
  rw [he, if_neg (by simp), if_pos hd]
theorem goodT (f : Nat → Nat) (k : Nat) (h : k < 20) : GoodB (turnA f k) := errB_good (smallT f k h) (errT f k h)
theorem OffT.offS {n k : Nat} {rest : List Int} {one two : List (List Toss)} (h : OffT n k rest one two) (hn : 1 ≤ n ∧ n ≤ 8) (hk : k ≤ 50) : offS (n : Int) one = offE (.inl rest) ∧ offS (n : Int) two = offE (.inl rest) := by
  have e : offW (upto n) two = .inl rest := by
    rw [← offW_same one two (upto n) h.rank (fun r hr o ho => (h.okx r hr o ho).1) (fun r hr o ho => (h.oky r hr o ho).1)]
    exact h.off
  have hi : ins 1 8 [(n : Int)] = true := ins_one.2 (by omega)
  have h1 := h.len1
  have h2 := h.len2
  constructor
  · unfold Go.Proofs.Ytpifdeglhalefaa.offS
    rw [hi, if_neg (by simp), if_neg (by omega), Int.toNat_natCast, h.off]
  · unfold Go.Proofs.Ytpifdeglhalefaa.offS
    rw [hi, if_neg (by simp), if_neg (by omega), Int.toNat_natCast, e]
theorem sq_nn (a : Int) : 0 ≤ a * a := by
  rcases Int.le_total 0 a with h | h
  · exact Int.mul_nonneg h h
  · rw [← Int.neg_mul_neg]
    exact Int.mul_nonneg (by omega) (by omega)
theorem far_le {far : Nat} {z : Int} (h : (far : Int) * far ≤ z) (hz : z ≤ 50000000) : far ≤ 7072 := by
  rcases Nat.lt_or_ge 7072 far with h1 | h1
  · have h2 := Nat.mul_le_mul h1 h1
    have h3 : (far : Int) * far = ((far * far : Nat) : Int) := by push_cast; rfl
    omega
  · exact h1
theorem rank_cls {x y : Toss} (h : clsB x.bed = clsB y.bed) (hf : x.far = y.far) : x.rank = y.rank := by
  unfold clsB at h
  unfold Toss.rank
  rw [hf]
  by_cases h1 : x.bed = 225 <;> by_cases h2 : x.bed = 125 <;> by_cases h3 : x.bed = 0 <;> by_cases k1 : y.bed = 225 <;> by_cases k2 : y.bed = 125 <;> by_cases k3 : y.bed = 0 <;> simp_all
set_option maxRecDepth 100000 in
set_option maxHeartbeats 16000000 in
theorem turned_off (pl : Nat) (pts : List (Nat × Nat)) (pa : Option Addr) (pc tn : Nat) (w : World) (hpl : pl < 256) (htn : tn < 256) (hpt : PtsU w pa pts) (hpn : pts.length ≤ 9223372036854775807) :
    Calls Try.prog 3 #[.int .u8 pl, .slice pa pts.length pc, .int .u8 tn] w fun e w' => e = .returned (.bool true) ∧ Ext w w' := by
  have HAB := Lib.hid (fun W => (show Calls Try.prog 6 #[.agg #[.int .u8 1, .int .u8 3, .int .u8 1, .int .u8 2], .int .u8 0] W fun e w' => ∃ v : BrdV, e = .returned (.agg (v.cells (armB facT 0))) ∧ ArmO W.heap.size w' v (armB facT 0) ∧ Ext W w' from arm_Board facT 0 W (fun k => by unfold facT; split <;> omega) (by omega)))
  have HPT := Lib.hid hpt
  obtain ⟨np, hnp⟩ : ∃ y, pts.length = y := ⟨_, rfl⟩
  rw [hnp] at hpn ⊢
  have HNP := Lib.hid hnp
  clear hpt hnp
  go_enter Try.func3, Try.ntmps3
  go_wp2_with fail
  refine (HAB.out _).mono ?_
  rintro e w1 ⟨v1, rfl, ho1, hx1⟩
  have hb1 := ho1.at_
  have hcap := ho1.cap
  have hq : ((tn : Int) % 20) = ((tn % 20 : Nat) : Int) := by omega
  have hk20 : tn % 20 < 20 := by omega
  obtain ⟨k, hk⟩ : ∃ y, tn % 20 = y := ⟨_, rfl⟩
  rw [hk] at hq hk20
  have HQ := Lib.hid hq
  have HTU := Lib.hid (brd_Turn v1 (armB facT 0) (k : Int) (w1.alloc (.cells (v1.cells (armB facT 0)) 27)) (hb1.ext ((Ext.refl w1).alloc _)) (smallA facT 0) (by rw [hcap]; exact ⟨Nat.le_refl _, by decide⟩))
  rw [turnRA facT k hk20] at HTU
  rw [cellsA0] at HTU ⊢
  obtain ⟨ra, la, na, rc, lc, nc⟩ := v1
  simp only at HTU ⊢
  have HX1 := Lib.hid hx1
  have HB1 := Lib.hid hb1
  clear hk hq hx1 hb1 hcap ho1 HAB
  go_wp2_with fail
  rw [HQ.out]
  refine HTU.out.mono ?_
  rintro e w2 ⟨v2, rfl, hb2, hrest, hx2⟩
  rw [cellsT _ _ _ hk20]
  obtain ⟨ra2, la2, na2, rc2, lc2, nc2⟩ := v2
  simp only
  have hk7 : Blk w2 w1.heap.size #[.int .i64 64, .int .i64 159, .slice ra 4 rc, .slice la 20 lc, .slice na 20 nc, .int .i64 0] := (Blk.new _ _ _).ext hx2
  have hy2 : Ext w1 w2 := ((Ext.refl w1).alloc _).trans hx2
  have HX2 := Lib.hid (HX1.out.trans hy2)
  have HB2 := Lib.hid (HB1.out.ext hy2)
  have HT2 := Lib.hid hb2
  have HK7 := Lib.hid hk7
  have hq : (2 + (pl : Int) % 3) = ((2 + pl % 3 : Nat) : Int) := by omega
  have hn4 : 2 ≤ 2 + pl % 3 ∧ 2 + pl % 3 ≤ 4 := by omega
  obtain ⟨n, hn⟩ : ∃ y, 2 + pl % 3 = y := ⟨_, rfl⟩
  rw [hn] at hq hn4
  obtain ⟨hn2, hn4⟩ := hn4
  have HQ2 := Lib.hid hq
  clear hk7 hy2 hx2 hb2 hrest hq hn HTU HX1 HB1
  go_upto_region 7 with fail
  rw [HQ2.out]
  obtain ⟨w3, hw3⟩ : ∃ y, y = (w2.alloc (.cells #[.int .i64 64, .int .i64 159, .slice ra2 4 rc2, .slice la2 20 lc2, .slice na2 20 nc2, .int .i64 0] 27)).alloc (.cells #[] 3) := ⟨_, rfl⟩
  rw [← hw3]
  have hx3 : Ext w2 w3 := by rw [hw3]; exact ((Ext.refl w2).alloc _).alloc _
  have hk8 : Blk w3 w2.heap.size #[.int .i64 64, .int .i64 159, .slice ra2 4 rc2, .slice la2 20 lc2, .slice na2 20 nc2, .int .i64 0] := by rw [hw3]; exact (Blk.new _ _ _).alloc _
  have ho3 : OwnI w3 (w2.heap.size + 1) (.slice (some ⟨w2.heap.size + 1, 0, none⟩) 0 0) (upto 0) := by rw [hw3]; exact own_empty (by simp) (by omega)
  have HK8 := Lib.hid hk8
  have HO3 := Lib.hid ho3
  have HX3 := Lib.hid hx3
  clear hw3 hk8 ho3 hx3
  go_loopw [11, 12] (fun rv iv wr => ∃ i : Nat, i ≤ n ∧ iv = .int .i64 i ∧ OwnI wr (w2.heap.size + 1) rv (upto i) ∧ Chg (fun b => w2.heap.size + 1 ≤ b) w3 wr) (fun _ iv _ => n - (intOf iv).toNat)
  case atStart => exact ⟨0, by omega, rfl, HO3.out, Chg.refl _ _⟩
  case round =>
    rename_i rv iv
    obtain ⟨i, hi, rfl, ho, hc⟩ := hrel
    obtain ⟨w4, rfl⟩ : ∃ y, y = wr := ⟨_, rfl⟩
    clear HO3
    have HO := Lib.hid ho
    have HC := Lib.hid hc
    obtain ⟨oa, oc, rfl⟩ := own_shape ho
    have hul := upto_length i
    have HUL := Lib.hid hul
    clear ho hc
    rw [hul]
    clear hul
    by_cases hlt : i < n
    · have hlt' : (i : Int) < (n : Int) := by omega
      have hal : Ext w4 (w4.alloc (.cells #[.int .i64 i] 3)) := (Ext.refl w4).alloc _
      have HOa : Hid ((w4.alloc (.cells #[.int .i64 i] 3)).ownsRow (w2.heap.size + 1) 3 1 (.slice oa i oc) i ((upto i).map (Value.int .i64))) := Lib.hid (by
        have h := own_chg HO.out (hal.chg fun _ => False) fun _ _ => fun a => a
        rw [HUL.out] at h
        exact h)
      have HS := Lib.hid (show w2.heap.size + 1 ≤ (w4.alloc (.cells #[.int .i64 i] 3)).heap.size from Nat.le_trans HK8.out.lt (Nat.le_trans HC.out.size hal.size))
      have HCa := Lib.hid (HC.out.ext' hal)
      go_wp2_with (at_builtin; refine wp_append_from rfl _ _ 25 3 _ 1 8 rfl info_int (by kernel_rfl) rfl (by decide) (w2.heap.size + 1) (.slice oa i oc) i ((upto i).map (Value.int .i64)) rfl HOa.out (some ⟨w4.heap.size, 0, none⟩) 1 1 [.int .i64 i] rfl (fun h => by cases h) rfl ?_ ?_ (by omega) (by omega) HS.out ?_)
      · intro ad had j' u hj
        cases had
        match j', hj with
        | 0, hj => cases hj; rw [addr_add]; exact (Blk.new w4 _ _).cell 0 rfl
      · intro u hu
        simp only [List.mem_cons, List.not_mem_nil, or_false] at hu
        rcases hu with rfl
        rfl
      intro v' w6 hO6 hg6 hn6
      obtain ⟨va, vc, rfl⟩ := own_shape hO6
      have HC6 := Lib.hid (HCa.out.after hg6 (fun q hq hb => by
        have h := (World.ownsRow.lt HOa.out q hb).1
        exact h))
      have HO6 := Lib.hid hO6
      clear hO6 hg6 hn6 HOa HS hal
      go_wp2
      go_roundw
      case rel =>
        refine ⟨i + 1, by omega, by go_num, ?_, HC6.out⟩
        show w6.ownsRow _ _ _ (.slice va (i + 1) vc) (upto (i + 1)).length _
        rw [upto_length, upto_succ, List.map_append]
        exact HO6.out
      case measure => simp [intOf]; omega
    · have hin : i = n := by omega
      rw [hin] at HO
      have HIN := Lib.hid hin
      clear hin
      go_upto_region 13 with fail
      obtain ⟨w5, hw5⟩ : ∃ y, y = (w4.alloc (.cells #[] 38)).alloc (.cells #[] 38) := ⟨_, rfl⟩
      rw [← hw5]
      have hx5 : Ext w4 w5 := by rw [hw5]; exact ((Ext.refl w4).alloc _).alloc _
      have hs34 := HC.out.size
      have hs23 := HX3.out.size
      have h8l := HK8.out.lt
      have hr1 : RowF w5 (w2.heap.size + 1) (.slice (some ⟨w4.heap.size, 0, none⟩) 0 0) [] := by
        rw [hw5]
        exact RowF.ext (w := w4.alloc (.cells #[] 38)) ⟨[], own_empty rfl (by omega), rfl, fun i hi => absurd hi (by simp)⟩ ((Ext.refl _).alloc _)
      have hr2 : RowF w5 (w2.heap.size + 1) (.slice (some ⟨w4.heap.size + 1, 0, none⟩) 0 0) [] := by
        rw [hw5]
        exact ⟨[], own_empty (by simp) (by omega), rfl, fun i hi => absurd hi (by simp)⟩
      have hap : ApartV (.slice (some ⟨w4.heap.size, 0, none⟩) 0 0) (.slice (some ⟨w4.heap.size + 1, 0, none⟩) 0 0) := fun q h1 h2 => by
        simp only [Value.ownBlock, Option.some.injEq] at h1 h2
        omega
      have HR1 := Lib.hid hr1
      have HR2 := Lib.hid hr2
      have HAP := Lib.hid hap
      have HO5 := Lib.hid (OwnI.ext HO.out hx5)
      have HC5 := Lib.hid (HC.out.ext' hx5)
      clear hw5 hx5 hs34 hs23 h8l hr1 hr2 hap HO HC HUL
      go_loopw [11, 14, 15, 16, 17] (fun rv ov tv av kv wr => ∃ (rest : List Int) (one two : List (List Toss)) (a k' : Nat), kv = .int .i64 k' ∧ av = .int .i64 a ∧ k' ≤ 6 ∧ a ≤ 4 * k' ∧ OwnI wr (w2.heap.size + 1) rv rest ∧ RowF wr (w2.heap.size + 1) ov one ∧ RowF wr (w2.heap.size + 1) tv two ∧ ApartV ov tv ∧ OffT n k' rest one two ∧ Chg (fun b => w2.heap.size + 1 ≤ b) w3 wr) (fun _ _ _ _ kv _ => 6 - (intOf kv).toNat)
      case atStart => exact ⟨upto n, [], [], 0, 0, rfl, rfl, by omega, by omega, (by rw [HIN.out]; have h := HO5.out; rw [upto_length] at h; exact h), HR1.out, HR2.out, HAP.out, OffT.nil n (by omega), HC5.out⟩
      case round =>
        rename_i rv ov tv av kv
        obtain ⟨rest, one, two, a, k', rfl, rfl, hk6, hak, hro, hone, htwo, hapt, hoff, hc⟩ := hrel
        obtain ⟨w6, rfl⟩ : ∃ y, y = wr := ⟨_, rfl⟩
        clear HO5 HC5 HR1 HR2 HAP
        have HRO := Lib.hid hro
        have HONE := Lib.hid hone
        have HTWO := Lib.hid htwo
        have HOFF := Lib.hid hoff
        have HC6 := Lib.hid hc
        obtain ⟨re, rf, rfl⟩ := own_shape hro
        obtain ⟨o1, o2, rfl⟩ := hone.shape
        obtain ⟨u1, u2, rfl⟩ := htwo.shape
        have hl1 := hoff.len1
        have hl2 := hoff.len2
        have hrp := hoff.pos
        have hrn := hoff.le
        rw [hl1, hl2] at hapt
        have HAPT := Lib.hid hapt
        clear hro hone htwo hapt hoff hc
        obtain ⟨m, hm⟩ : ∃ y, rest.length = y := ⟨_, rfl⟩
        rw [hl1, hl2, hm]
        rw [hm] at hrp hrn
        have HM := Lib.hid hm
        have HL1 := Lib.hid hl1
        have HL2 := Lib.hid hl2
        have HX26 := Lib.hid (Chg.to_ext HX3.out HC6.out (fun q h => by omega))
        have HK76 := Lib.hid (HK7.out.ext HX26.out)
        have HK86 := Lib.hid (HK8.out.chg HC6.out (by intro h; omega))
        clear hm hl1 hl2
        by_cases hgo : k' < 6 ∧ 1 < m
        · obtain ⟨hk5, hm1⟩ := hgo
          have hk5' : (k' : Int) < 6 := by omega
          have hm1' : (1 : Int) < (m : Int) := by omega
          go_upto_region 17 with fail
          obtain ⟨w7, hw7⟩ : ∃ y, y = (w6.alloc (.cells #[] 35)).alloc (.cells #[] 35) := ⟨_, rfl⟩
          rw [← hw7]
          have hx7 : Ext w6 w7 := by rw [hw7]; exact ((Ext.refl w6).alloc _).alloc _
          have hxo : OwnF w7 w6.heap.size (.slice (some ⟨w6.heap.size, 0, none⟩) 0 0) [] := by
            rw [hw7]
            exact OwnF.ext (w := w6.alloc (.cells #[] 35)) (own_empty rfl (Nat.le_refl _)) ((Ext.refl _).alloc _)
          have hyo : OwnF w7 w6.heap.size (.slice (some ⟨w6.heap.size + 1, 0, none⟩) 0 0) [] := by
            rw [hw7]
            exact own_empty (by simp) (by omega)
          have hap : ApartV (.slice (some ⟨w6.heap.size, 0, none⟩) 0 0) (.slice (some ⟨w6.heap.size + 1, 0, none⟩) 0 0) := fun q h1 h2 => by
            simp only [Value.ownBlock, Option.some.injEq] at h1 h2
            omega
          have HX7 := Lib.hid hx7
          have HXO := Lib.hid hxo
          have HYO := Lib.hid hyo
          have HAP := Lib.hid hap
          clear hw7 hx7 hxo hyo hap
          go_loopw [16, 18, 19, 20, 75] (fun av xv yv bv cv wr => ∃ (q : Nat) (xs ys : List Toss), q ≤ m ∧ av = .int .i64 ((a : Int) + q) ∧ bv = .int .i64 (maxO xs) ∧ cv = .int .i64 q ∧ xs.length = q ∧ ys.length = q ∧ OwnF wr w6.heap.size xv xs ∧ OwnF wr w6.heap.size yv ys ∧ ApartV xv yv ∧ DrtS xs ys ∧ Ext w6 wr) (fun _ _ _ _ cv _ => m - (intOf cv).toNat)
          case atStart => exact ⟨0, [], [], by omega, by simp, rfl, rfl, rfl, rfl, HXO.out, HYO.out, HAP.out, DrtS.nil, HX7.out⟩
          case round =>
            rename_i av xv yv bv cv
            obtain ⟨q, xs, ys, hqm, rfl, rfl, rfl, hlx, hly, hxo, hyo, hap, hds, hx⟩ := hrel
            obtain ⟨w8, rfl⟩ : ∃ y, y = wr := ⟨_, rfl⟩
            clear HXO HYO HAP HX7
            obtain ⟨xa, xc, rfl⟩ := own_shape hxo
            obtain ⟨ya, yc, rfl⟩ := own_shape hyo
            rw [hlx, hly]
            rw [hlx, hly] at hap
            have HXO := Lib.hid hxo
            have HYO := Lib.hid hyo
            have HAP := Lib.hid hap
            have HDS := Lib.hid hds
            have HX8 := Lib.hid hx
            have HLX := Lib.hid hlx
            have HLY := Lib.hid hly
            clear hxo hyo hap hds hx hlx hly
            obtain ⟨best, hbest⟩ : ∃ y, maxO xs = y := ⟨_, rfl⟩
            rw [hbest]
            have HBEST := Lib.hid hbest
            clear hbest
            by_cases hlt : q < m
            · have hlt' : (q : Int) < (m : Int) := by omega
              go_upto_region 19 with fail
              have hp0 : Blk (w8.alloc (.cells #[.int .i64 0, .int .i64 0] 40)) w8.heap.size #[.int .i64 0, .int .i64 0] := Blk.new _ _ _
              obtain ⟨w9, hw9⟩ : ∃ y, y = w8.alloc (.cells #[.int .i64 0, .int .i64 0] 40) := ⟨_, rfl⟩
              rw [← hw9] at hp0 ⊢
              have hx9 : Ext w8 w9 := by rw [hw9]; exact (Ext.refl _).alloc _
              have HP0 := Lib.hid hp0
              have HX9 := Lib.hid hx9
              have HPT9 := Lib.hid (HPT.out.ext (HX2.out.trans (HX26.out.trans (HX8.out.trans hx9))))
              clear hw9 hp0 hx9
              go_upto_if 80 with fail
              go_cut [81] from 79 to 88 (fun _ wx => ∃ pp : Pt, (-1800 ≤ pp.x ∧ pp.x ≤ 1800) ∧ (-1800 ≤ pp.y ∧ pp.y ≤ 1800) ∧ Blk wx w8.heap.size #[.int .i64 pp.x, .int .i64 pp.y] ∧ Ext w8 wx)
              case first =>
                by_cases hz : np = 0
                · subst hz
                  go_wp2
                  go_meet
                  exact ⟨⟨0, 0⟩, by constructor <;> simp, by constructor <;> simp, HP0.out, HX9.out⟩
                · have hnp : 0 < np := by omega
                  have hnp' : (0 : Int) < (np : Int) := by omega
                  have hmod : ((a : Int) + (q : Int)) % (np : Int) = (((a + q) % np : Nat) : Int) := by push_cast; rfl
                  have hml := Nat.mod_lt (a + q) hnp
                  obtain ⟨j, hj⟩ : ∃ y, (a + q) % np = y := ⟨_, rfl⟩
                  rw [hj] at hmod hml
                  clear hj
                  obtain ⟨pb, po, rfl, q0, q1, g0, g1⟩ := HPT9.out j (by rw [HNP.out]; exact hml)
                  have ql := lt_of_cell q0
                  simp only at ql
                  obtain ⟨m0, hm0⟩ : ∃ y, (pts[j]'(by rw [HNP.out]; exact hml)).1 = y := ⟨_, rfl⟩
                  obtain ⟨m1, hm1⟩ : ∃ y, (pts[j]'(by rw [HNP.out]; exact hml)).2 = y := ⟨_, rfl⟩
                  rw [hm0] at q0 g0
                  rw [hm1] at q1 g1
                  clear hm0 hm1
                  have hjl : (j : Int) < (np : Int) := by omega
                  have HAP0 := Lib.hid (fun W => arm_Point m0 m1 W g0 g1)
                  obtain ⟨ax, hax⟩ : ∃ y, (pntA m0 m1).x = y := ⟨_, rfl⟩
                  obtain ⟨ay, hay⟩ : ∃ y, (pntA m0 m1).y = y := ⟨_, rfl⟩
                  have hxb : -1800 ≤ ax ∧ ax ≤ 1800 := by rw [← hax]; unfold pntA; simp only; omega
                  have hyb : -1800 ≤ ay ∧ ay ≤ 1800 := by rw [← hay]; unfold pntA; simp only; omega
                  unfold Pt.agg at HAP0
                  rw [hax, hay] at HAP0
                  clear hax hay
                  go_wp2_with fail
                  refine (HAP0.out _).mono ?_
                  rintro e w10 ⟨rfl, hx10⟩
                  have hp10 := HP0.out.ext hx10
                  have r0 := hp10.cell 0 (v := .int .i64 0) rfl
                  have r1 := hp10.cell 1 (v := .int .i64 0) rfl
                  have rf0 := hp10.frozen 0
                  have rf1 := hp10.frozen 1
                  have rl := hp10.lt
                  have HP10 := Lib.hid hp10
                  have HX10 := Lib.hid (HX9.out.trans hx10)
                  clear hp10 hx10 HAP0
                  go_wp2
                  go_meet
                  exact ⟨⟨ax, ay⟩, hxb, hyb, (HP10.out.set 0 _).set 1 _, (HX10.out.setCell (p := ⟨w8.heap.size, 0, none⟩) (Nat.le_refl _) _).setCell (p := ⟨w8.heap.size, 1, none⟩) (Nat.le_refl _) _⟩
              case rest =>
                obtain ⟨⟨px, py⟩, hpx, hpy, hpb, hx⟩ := hcut
                obtain ⟨wp, rfl⟩ : ∃ y, y = wc := ⟨_, rfl⟩
                simp only at hpx hpy hpb
                have HPB := Lib.hid hpb
                have HXp := Lib.hid hx
                have hx2b := mul_small (a := px) (b := px) (by omega) (by omega)
                have hy2b := mul_small (a := py) (b := py) (by omega) (by omega)
                have r0 := hpb.cell 0 (v := .int .i64 px) rfl
                have r1 := hpb.cell 1 (v := .int .i64 py) rfl
                have rl := hpb.lt
                clear hpb hx HP0 HX9 HPT9
                obtain ⟨x2, hx2⟩ : ∃ y, px * px = y := ⟨_, rfl⟩
                obtain ⟨y2, hy2⟩ : ∃ y, py * py = y := ⟨_, rfl⟩
                have hx20 : 0 ≤ x2 := by rw [← hx2]; exact sq_nn px
                have hy20 : 0 ≤ y2 := by rw [← hy2]; exact sq_nn py
                rw [hx2] at hx2b
                rw [hy2] at hy2b
                have HKP7 := Lib.hid (HK76.out.ext (HX8.out.trans HXp.out))
                have HKP8 := Lib.hid (HK86.out.ext (HX8.out.trans HXp.out))
                have hpt : ptB ⟨px, py⟩ = true := by unfold ptB; exact ins_two.2 (by simp only; omega)
                have HXQ := Lib.hid (HX26.out.trans (HX8.out.trans HXp.out))
                have HBA := Lib.hid (fun W (hx : Ext wp W) => brd_Bed ⟨ra, la, na, rc, lc, nc⟩ (armB facT 0) ⟨px, py⟩ W (HB2.out.ext (HXQ.out.trans hx)) (smallA facT 0))
                have HBT := Lib.hid (fun W (hx : Ext wp W) => brd_Bed ⟨ra2, la2, na2, rc2, lc2, nc2⟩ (turnA facT k) ⟨px, py⟩ W (HT2.out.ext (HXQ.out.trans hx)) (smallT facT k hk20))
                rw [cellsA0, bedR_ok (errA facT 0) hpt] at HBA
                rw [cellsT _ _ _ hk20, bedR_ok (errT facT k hk20) hpt] at HBT
                have HCL := Lib.hid (cls_turn (goodA facT 0) (goodT facT k hk20) rfl rfl rfl rfl rfl ⟨px, py⟩)
                have HVA := Lib.hid (bed_valid (goodA facT 0) ⟨px, py⟩)
                have HVT := Lib.hid (bed_valid (goodT facT k hk20) ⟨px, py⟩)
                obtain ⟨bc, hbc⟩ : ∃ y, bedB (armB facT 0) ⟨px, py⟩ = y := ⟨_, rfl⟩
                obtain ⟨bd, hbd⟩ : ∃ y, bedB (turnA facT k) ⟨px, py⟩ = y := ⟨_, rfl⟩
                obtain ⟨wc1, hwc⟩ : ∃ y, onWire (armB facT 0) ⟨px, py⟩ = y := ⟨_, rfl⟩
                obtain ⟨wd1, hwd⟩ : ∃ y, onWire (turnA facT k) ⟨px, py⟩ = y := ⟨_, rfl⟩
                rw [hbc, hwc] at HBA
                rw [hbd, hwd] at HBT
                rw [hbc, hbd] at HCL
                rw [hbc] at HVA
                rw [hbd] at HVT
                unfold Pt.agg at HBA HBT
                simp only at HBA HBT
                clear hpt hbc hbd hwc hwd
                go_upto_region 23 with fail
                go_loopw [22] (fun fv wr => ∃ far : Nat, fv = .int .i64 far ∧ (far : Int) * (far : Int) ≤ x2 + y2 ∧ wr = wp) (fun fv _ => 8000 - (intOf fv).toNat)
                case atStart => exact ⟨0, rfl, by simp; omega, rfl⟩
                case round =>
                  obtain ⟨far, rfl, hfar, rfl⟩ := hrel
                  have hfl := far_le hfar (by omega)
                  have hfl' : (far : Int) ≤ 7072 := by omega
                  have HFAR := Lib.hid hfar
                  clear hfar
                  have hmm := mul_small (a := (far : Int) + 1 - 5000) (b := (far : Int) + 1 - 5000) (by omega) (by omega)
                  obtain ⟨s2, hs2⟩ : ∃ y, ((far : Int) + 1) * ((far : Int) + 1) = y := ⟨_, rfl⟩
                  have hs2b : 0 ≤ s2 ∧ s2 ≤ 60000000 := by
                    rw [← hs2]
                    have h1 := Nat.mul_le_mul (show far + 1 ≤ 7073 by omega) (show far + 1 ≤ 7073 by omega)
                    have h2 : ((far : Int) + 1) * ((far : Int) + 1) = (((far + 1) * (far + 1) : Nat) : Int) := by push_cast; rfl
                    omega
                  obtain ⟨hs20, hs21⟩ := hs2b
                  have HS2 := Lib.hid hs2
                  clear hmm
                  by_cases hle : s2 ≤ x2 + y2
                  · go_wp2
                    go_roundw
                    case rel => exact ⟨far + 1, by go_num, by push_cast; rw [HS2.out]; exact hle, trivial⟩
                    case measure => simp [intOf]; omega
                  · obtain ⟨we, rfl⟩ : ∃ y, y = wr := ⟨_, rfl⟩
                    have hle' : x2 + y2 < s2 := by omega
                    have HPBE := HPB
                    have c0 := HKP7.out.cell 0 (v := .int .i64 64) rfl
                    have c1 := HKP7.out.cell 1 (v := .int .i64 159) rfl
                    have c2 := HKP7.out.cell 2 (v := .slice ra 4 rc) rfl
                    have c3 := HKP7.out.cell 3 (v := .slice la 20 lc) rfl
                    have c4 := HKP7.out.cell 4 (v := .slice na 20 nc) rfl
                    have c5 := HKP7.out.cell 5 (v := .int .i64 0) rfl
                    have cl := HKP7.out.lt
                    go_wp2_with fail
                    refine (HBA.out _ (Ext.refl _)).mono ?_
                    rintro e w11 ⟨rfl, hx11⟩
                    have hk8 := HKP8.out.ext hx11
                    have hp11 := HPB.out.ext hx11
                    clear c0 c1 c2 c3 c4 c5 cl r0 r1 rl hs2 hs20 hs21 hle hle' HS2
                    have c0 := hk8.cell 0 (v := .int .i64 64) rfl
                    have c1 := hk8.cell 1 (v := .int .i64 159) rfl
                    have c2 := hk8.cell 2 (v := .slice ra2 4 rc2) rfl
                    have c3 := hk8.cell 3 (v := .slice la2 20 lc2) rfl
                    have c4 := hk8.cell 4 (v := .slice na2 20 nc2) rfl
                    have c5 := hk8.cell 5 (v := .int .i64 0) rfl
                    have cl := hk8.lt
                    have r0 := hp11.cell 0 (v := .int .i64 px) rfl
                    have r1 := hp11.cell 1 (v := .int .i64 py) rfl
                    have rl := hp11.lt
                    have HX11 := Lib.hid hx11
                    clear hk8 hp11 hx11
                    go_wp2_with fail
                    refine (HBT.out _ HX11.out).mono ?_
                    rintro e w12 ⟨rfl, hx12⟩
                    have HX812 := Lib.hid (HXp.out.trans (HX11.out.trans hx12))
                    clear c0 c1 c2 c3 c4 c5 cl r0 r1 rl hx12 HX11 HBA HBT HKP7 HKP8 HPB HPBE
                    have HFB := Lib.hid (show (0 : Int) ≤ (far : Int) ∧ (far : Int) ≤ 10000 by omega)
                    have HRK := Lib.hid (rank_cls (x := ⟨bc, far⟩) (y := ⟨bd, far⟩) HCL.out.symm rfl)
                    have HOK1 : Hid ((⟨bc, far⟩ : Toss).ok = true ∧ I64 bc) := Lib.hid ⟨by unfold Toss.ok; simp only [Bool.and_eq_true]; exact ⟨HVA.out.1, ins_one.2 HFB.out⟩, HVA.out.2⟩
                    have HOK2 : Hid ((⟨bd, far⟩ : Toss).ok = true ∧ I64 bd) := Lib.hid ⟨by unfold Toss.ok; simp only [Bool.and_eq_true]; exact ⟨HVT.out.1, ins_one.2 HFB.out⟩, HVT.out.2⟩
                    have hal1 : Ext w12 (w12.alloc (.cells #[.int .i64 bc, .int .i64 far] 35)) := (Ext.refl _).alloc _
                    have HXA : Hid ((w12.alloc (.cells #[.int .i64 bc, .int .i64 far] 35)).ownsRow w6.heap.size 35 2 (.slice xa q xc) q (xs.flatMap cellsF)) := Lib.hid (by
                      have h := OwnF.ext HXO.out (HX812.out.trans hal1)
                      unfold OwnF at h
                      rw [HLX.out] at h
                      exact h)
                    have HYA : Hid ((w12.alloc (.cells #[.int .i64 bc, .int .i64 far] 35)).ownsRow w6.heap.size 35 2 (.slice ya q yc) q (ys.flatMap cellsF)) := Lib.hid (by
                      have h := OwnF.ext HYO.out (HX812.out.trans hal1)
                      unfold OwnF at h
                      rw [HLY.out] at h
                      exact h)
                    have HXE1 := Lib.hid (HX8.out.trans (HX812.out.trans hal1))
                    have HS := Lib.hid HXE1.out.size
                    go_wp2_with (at_builtin; refine wp_append_from rfl _ _ 38 35 _ 2 16 rfl info_off (by kernel_rfl) rfl (by decide) w6.heap.size (.slice xa q xc) q (xs.flatMap cellsF) rfl HXA.out (some ⟨w12.heap.size, 0, none⟩) 1 1 [.int .i64 bc, .int .i64 far] rfl (fun h => by cases h) rfl ?_ ?_ (by omega) (by omega) HS.out ?_)
                    · intro ad had j' u hj
                      cases had
                      match j', hj with
                      | 0, hj => cases hj; rw [addr_add]; exact (Blk.new w12 _ _).cell 0 rfl
                      | 1, hj => cases hj; rw [addr_add]; exact (Blk.new w12 _ _).cell 1 rfl
                    · intro u hu
                      simp only [List.mem_cons, List.not_mem_nil, or_false] at hu
                      rcases hu with rfl | rfl <;> rfl
                    intro v13 w13 hO13 hg13 hn13
                    obtain ⟨xa2, xc2, rfl⟩ := own_shape hO13
                    have HAP13 := Lib.hid (HAP.out.step hn13 (fun z hz => by have h := (World.ownsRow.lt HYA.out z hz).2; simpa using h))
                    have HXO13 := Lib.hid hO13
                    have HYA13 := Lib.hid (own_chg HYA.out hg13 HAP.out.symm)
                    have HXE13 := Lib.hid (Chg.to_ext HXE1.out hg13 (fun z hz => (World.ownsRow.lt HXA.out z hz).1))
                    have hal2 : Ext w13 (w13.alloc (.cells #[.int .i64 bd, .int .i64 far] 35)) := (Ext.refl _).alloc _
                    have HYB := Lib.hid (own_chg HYA13.out (hal2.chg fun _ => False) fun _ _ => fun a => a)
                    have HXB := Lib.hid (own_chg HXO13.out (hal2.chg fun _ => False) fun _ _ => fun a => a)
                    have HXE2 := Lib.hid (HXE13.out.trans hal2)
                    have HS := Lib.hid HXE2.out.size
                    clear hO13 hg13 hn13 hal1 hal2 HXA HYA HXE1 HXO13 HYA13 HXE13
                    go_wp2_with (at_builtin; refine wp_append_from rfl _ _ 38 35 _ 2 16 rfl info_off (by kernel_rfl) rfl (by decide) w6.heap.size (.slice ya q yc) q (ys.flatMap cellsF) rfl HYB.out (some ⟨w13.heap.size, 0, none⟩) 1 1 [.int .i64 bd, .int .i64 far] rfl (fun h => by cases h) rfl ?_ ?_ (by omega) (by omega) HS.out ?_)
                    · intro ad had j' u hj
                      cases had
                      match j', hj with
                      | 0, hj => cases hj; rw [addr_add]; exact (Blk.new w13 _ _).cell 0 rfl
                      | 1, hj => cases hj; rw [addr_add]; exact (Blk.new w13 _ _).cell 1 rfl
                    · intro u hu
                      simp only [List.mem_cons, List.not_mem_nil, or_false] at hu
                      rcases hu with rfl | rfl <;> rfl
                    intro v14 w14 hO14 hg14 hn14
                    obtain ⟨ya2, yc2, rfl⟩ := own_shape hO14
                    have HAP14 := Lib.hid (ApartV.symm (HAP13.out.symm.step hn14 (fun z hz => by have h := (World.ownsRow.lt HXB.out z hz).2; simpa using h)))
                    have HXO14 := Lib.hid (own_chg HXB.out hg14 HAP13.out)
                    have HYO14 := Lib.hid hO14
                    have HXE14 := Lib.hid (Chg.to_ext HXE2.out hg14 (fun z hz => (World.ownsRow.lt HYB.out z hz).1))
                    clear hO14 hg14 hn14 HYB HXB HXE2 HAP13 HS
                    have HXF : Hid (OwnF w14 w6.heap.size (.slice xa2 (xs ++ [(⟨bc, far⟩ : Toss)]).length xc2) (xs ++ [(⟨bc, far⟩ : Toss)])) := Lib.hid (by
                      unfold OwnF
                      rw [List.length_append, HLX.out, List.flatMap_append]
                      exact HXO14.out)
                    have HYF : Hid (OwnF w14 w6.heap.size (.slice ya2 (ys ++ [(⟨bd, far⟩ : Toss)]).length yc2) (ys ++ [(⟨bd, far⟩ : Toss)])) := Lib.hid (by
                      unfold OwnF
                      rw [List.length_append, HLY.out, List.flatMap_append]
                      exact HYO14.out)
                    obtain ⟨xg, rfl, hxc⟩ := own_cellsN HXO14.out (by omega)
                    have hlq : (xs.flatMap cellsF).length = q * 2 := by
                      have h : ∀ l : List Toss, (l.flatMap cellsF).length = l.length * 2 := by
                        intro l
                        induction l with
                        | nil => rfl
                        | cons o l ih => rw [List.flatMap_cons, List.length_append, ih, List.length_cons]; simp [cellsF]; omega
                      rw [h, HLX.out]
                    have z0 := hxc (q * 2) (.int .i64 bc) (by rw [List.getElem?_append_right (by omega), hlq, Nat.sub_self]; rfl)
                    have z1 := hxc (q * 2 + 1) (.int .i64 far) (by rw [List.getElem?_append_right (by omega), hlq, Nat.add_sub_cancel_left]; rfl)
                    have zl := lt_of_cell z0
                    simp only at zl
                    have HWO := Lib.hid (fun W => off_worth ⟨bc, far⟩ W HFB.out)
                    unfold Toss.agg at HWO
                    obtain ⟨wv, hwv⟩ : ∃ y, worO ⟨bc, far⟩ = y := ⟨_, rfl⟩
                    rw [hwv] at HWO
                    have HWV := Lib.hid hwv
                    clear hlq hxc hwv HXO14 HYO14
                    go_wp2_with fail
                    refine (HWO.out _).mono ?_
                    rintro e w15 ⟨rfl, hx15⟩
                    have HXE15 := Lib.hid (HXE14.out.trans hx15)
                    have HXG : Hid (OwnF w15 w6.heap.size (.slice (some ⟨xg, 0, none⟩) (q + 1) xc2) (xs ++ [(⟨bc, far⟩ : Toss)])) := Lib.hid (by
                      have h := OwnF.ext HXF.out hx15
                      rw [List.length_append, HLX.out] at h
                      exact h)
                    have HYG : Hid (OwnF w15 w6.heap.size (.slice ya2 (q + 1) yc2) (ys ++ [(⟨bd, far⟩ : Toss)])) := Lib.hid (by
                      have h := OwnF.ext HYF.out hx15
                      rw [List.length_append, HLY.out] at h
                      exact h)
                    have HDN := Lib.hid (HDS.out.snoc HRK.out HOK1.out HOK2.out)
                    clear hx15 HXF HYF HWO HXE14 z0 z1 zl
                    have HMX : Hid ((if best < wv then wv else best) = maxO (xs ++ [(⟨bc, far⟩ : Toss)])) := Lib.hid (by rw [maxO_snoc, HBEST.out, HWV.out]; split <;> omega)
                    go_wp2
                    go_roundw
                    case rel => exact ⟨q + 1, _, _, by omega, by go_num, by rw [HMX.out], by go_num, by rw [List.length_append, HLX.out]; rfl, by rw [List.length_append, HLY.out]; rfl, HXG.out, HYG.out, HAP14.out, HDN.out, HXE15.out⟩
                    case measure => simp [intOf]; omega
            · have hqe : q = m := by omega
              have HQE := Lib.hid hqe
              clear hqe
              have HFL : Hid (∀ o ∈ xs, 0 ≤ o.far ∧ o.far ≤ 10000) := Lib.hid (fun o ho => by
                have h := (HDS.out.okx o ho).1
                unfold Toss.ok at h
                simp only [Bool.and_eq_true] at h
                exact ins_one.1 h.2)
              go_upto_region 34 with fail
              have hno : OwnI (w8.alloc (.cells #[] 3)) w8.heap.size (.slice (some ⟨w8.heap.size, 0, none⟩) 0 0) [] := own_empty rfl (Nat.le_refl _)
              obtain ⟨w9, hw9⟩ : ∃ y, y = w8.alloc (.cells #[] 3) := ⟨_, rfl⟩
              rw [← hw9] at hno ⊢
              have hx9 : Ext w8 w9 := by rw [hw9]; exact (Ext.refl _).alloc _
              have HNO := Lib.hid hno
              have HX9 := Lib.hid hx9
              clear hw9 hno hx9
              go_loopw [29, 30] (fun nv iv wr => ∃ j : Nat, j ≤ m ∧ iv = .int .i64 j ∧ OwnI wr w8.heap.size nv (bestW (leastT xs) (rest.take j) (xs.take j)) ∧ Ext w8 wr) (fun _ iv _ => m - (intOf iv).toNat)
              case atStart => exact ⟨0, by omega, rfl, by rw [List.take_zero, List.take_zero]; exact HNO.out, HX9.out⟩
              case round =>
                rename_i nv iv
                obtain ⟨j, hj, rfl, hno, hx⟩ := hrel
                obtain ⟨wn, rfl⟩ : ∃ y, y = wr := ⟨_, rfl⟩
                clear HNO HX9
                obtain ⟨na3, nc3, rfl⟩ := own_shape hno
                have HNO := Lib.hid hno
                have HXN := Lib.hid hx
                clear hno hx
                by_cases hjm : j < m
                · have hjm' : (j : Int) < (m : Int) := by omega
                  have hxl : j < xs.length := by rw [HLX.out, HQE.out]; exact hjm
                  have hrl : j < rest.length := by rw [HM.out]; exact hjm
                  obtain ⟨xg, xo, rfl, x0, x1⟩ := HXO.out.toss j hxl
                  obtain ⟨re', rf', hre, hrc⟩ := OwnI.cells HRO.out
                  obtain ⟨rfl, -⟩ : re = re' ∧ rf = rf' := by cases hre; exact ⟨rfl, rfl⟩
                  obtain ⟨rg, ro, rfl, y0⟩ := hrc j hrl
                  replace x0 := HXN.out.cell x0
                  replace x1 := HXN.out.cell x1
                  replace y0 := (HX8.out.trans HXN.out).cell y0
                  have xl := lt_of_cell x0
                  have yl := lt_of_cell y0
                  simp only at xl yl x0 x1 y0
                  have hfl := HFL.out xs[j] (List.getElem_mem hxl)
                  have hml := max_least HFL.out (List.getElem_mem hxl)
                  have hsn := bestW_snoc2 (leastT xs) rest[j] xs[j] (rest.take j) (xs.take j) (by rw [List.length_take, List.length_take]; omega)
                  rw [← List.take_succ_eq_append_getElem hrl, ← List.take_succ_eq_append_getElem hxl] at hsn
                  have hbl := bestW_length (leastT xs) (rest.take j) (xs.take j)
                  rw [List.length_take] at hbl
                  obtain ⟨L, hL⟩ : ∃ y, bestW (leastT xs) (rest.take j) (xs.take j) = y := ⟨_, rfl⟩
                  rw [hL] at hsn hbl HNO
                  rw [hL]
                  obtain ⟨nL, hnL⟩ : ∃ y, L.length = y := ⟨_, rfl⟩
                  rw [hnL] at hbl ⊢
                  have hnl4 : nL ≤ 4 := by omega
                  have HNL := Lib.hid hnL
                  have HWO := Lib.hid (fun W => off_worth xs[j] W hfl)
                  obtain ⟨o, ho⟩ : ∃ y, xs[j] = y := ⟨_, rfl⟩
                  obtain ⟨rj, hrj⟩ : ∃ y, rest[j] = y := ⟨_, rfl⟩
                  rw [ho] at x0 x1 hml hsn HWO
                  rw [hrj] at y0 hsn
                  obtain ⟨ob, ofar⟩ := o
                  unfold Toss.agg at HWO
                  simp only at x0 x1 HWO
                  rw [HBEST.out] at hml
                  obtain ⟨wv, hwv⟩ : ∃ y, worO ⟨ob, ofar⟩ = y := ⟨_, rfl⟩
                  rw [hwv] at HWO hml
                  have HSN := Lib.hid hsn
                  have HML := Lib.hid hml
                  clear hfl hml hsn hbl hL hnL ho hrj hwv hxl hrl hre hrc
                  have HNO2 : Hid (wn.ownsRow w8.heap.size 3 1 (.slice na3 nL nc3) nL (L.map (Value.int .i64))) := Lib.hid (by
                    have h := HNO.out
                    unfold OwnI at h
                    rw [HNL.out] at h
                    exact h)
                  clear HNO
                  go_wp2_with fail
                  refine (HWO.out _).mono ?_
                  rintro e w10 ⟨rfl, hx10⟩
                  replace y0 := hx10.cell y0
                  have yl := lt_of_cell y0
                  simp only at yl
                  have HX10 := Lib.hid (HXN.out.trans hx10)
                  have HNO3 := Lib.hid (own_chg HNO2.out (hx10.chg fun _ => False) fun _ _ => fun a => a)
                  clear hx10 HWO HNO2 x0 x1 xl
                  by_cases hwb : wv = best
                  · have hrk := HML.out.1 hwb
                    have hwb' : (wv == best) = true := by simpa using hwb
                    have HWB := Lib.hid hwb
                    have HRK := Lib.hid hrk
                    clear hwb hrk
                    have hal : Ext w10 (w10.alloc (.cells #[.int .i64 rj] 3)) := (Ext.refl _).alloc _
                    have HNA := Lib.hid (own_chg HNO3.out (hal.chg fun _ => False) fun _ _ => fun a => a)
                    have HXA := Lib.hid (HX10.out.trans hal)
                    have HS := Lib.hid HXA.out.size
                    go_wp2_with (at_builtin; refine wp_append_from rfl _ _ 25 3 _ 1 8 rfl info_int (by kernel_rfl) rfl (by decide) w8.heap.size (.slice na3 nL nc3) nL (L.map (Value.int .i64)) rfl HNA.out (some ⟨w10.heap.size, 0, none⟩) 1 1 [.int .i64 rj] rfl (fun h => by cases h) rfl ?_ ?_ (by omega) (by omega) HS.out ?_)
                    · intro ad had j' u hj
                      cases had
                      match j', hj with
                      | 0, hj => cases hj; rw [addr_add]; exact (Blk.new w10 _ _).cell 0 rfl
                    · intro u hu
                      simp only [List.mem_cons, List.not_mem_nil, or_false] at hu
                      rcases hu with rfl
                      rfl
                    intro v11 w11 hO11 hg11 hn11
                    obtain ⟨na4, nc4, rfl⟩ := own_shape hO11
                    have HO11 := Lib.hid hO11
                    have HX11 := Lib.hid (Chg.to_ext HXA.out hg11 (fun z hz => (World.ownsRow.lt HNA.out z hz).1))
                    clear hO11 hg11 hn11 hal HNA HXA HS HNO3
                    go_wp2
                    go_roundw
                    case rel =>
                      refine ⟨j + 1, by omega, by go_num, ?_, HX11.out⟩
                      rw [HSN.out, if_pos HRK.out]
                      show w11.ownsRow _ _ _ (.slice na4 (nL + 1) nc4) (L ++ [rj]).length _
                      rw [List.length_append, HNL.out, List.map_append]
                      exact HO11.out
                    case measure => simp [intOf]; omega
                  · have hwb' : (wv == best) = false := by simpa using hwb
                    have HRK : Hid (¬ (⟨ob, ofar⟩ : Toss).rank = leastT xs) := Lib.hid (fun h => hwb (HML.out.2 h))
                    clear hwb
                    go_wp2
                    go_roundw
                    case rel =>
                      refine ⟨j + 1, by omega, by go_num, ?_, HX10.out⟩
                      rw [HSN.out, if_neg HRK.out, List.append_nil]
                      show w10.ownsRow _ _ _ (.slice na3 nL nc3) L.length _
                      rw [HNL.out]
                      exact HNO3.out
                    case measure => simp [intOf]; omega
                · have hje : j = m := by omega
                  have HN2 : Hid (bestW (leastT xs) (rest.take j) (xs.take j) = bestW (leastT xs) rest xs) := Lib.hid (by rw [List.take_of_length_le (by rw [HM.out, hje]; exact Nat.le_refl _), List.take_of_length_le (by rw [HLX.out, HQE.out, hje]; exact Nat.le_refl _)])
                  rw [HN2.out] at HNO
                  rw [HN2.out]
                  clear hje
                  have HOFN := Lib.hid (HOFF.out.snoc (xs := xs) (ys := ys) (by rw [HM.out]; omega) (by rw [HLX.out, HQE.out, HM.out]) HDS.out)
                  obtain ⟨L, hL⟩ : ∃ y, bestW (leastT xs) rest xs = y := ⟨_, rfl⟩
                  rw [hL] at HNO HOFN
                  rw [hL]
                  obtain ⟨nL, hnL⟩ : ∃ y, L.length = y := ⟨_, rfl⟩
                  rw [hnL]
                  have HNL := Lib.hid hnL
                  clear hL hnL HN2
                  have hal1 : Ext wn (wn.alloc (.cells #[.slice xa q xc] 38)) := (Ext.refl _).alloc _
                  have HXW := Lib.hid (HX8.out.trans (HXN.out.trans hal1))
                  have h6s : w2.heap.size + 1 ≤ w6.heap.size := HK86.out.lt
                  have H6S := Lib.hid h6s
                  have HCW := Lib.hid (HC6.out.ext' HXW.out)
                  obtain ⟨ovals, o3, o4, o5⟩ := HONE.out.ext HXW.out
                  have HTW2 := Lib.hid (HTWO.out.ext HXW.out)
                  have HNW := Lib.hid (OwnI.ext HNO.out hal1)
                  have HXV := Lib.hid (OwnF.ext HXO.out (HXN.out.trans hal1))
                  have HYV := Lib.hid (OwnF.ext HYO.out (HXN.out.trans hal1))
                  have HO3 := Lib.hid o3
                  have HO4 := Lib.hid o4
                  have HO5 := Lib.hid o5
                  have HO3k : Hid ((wn.alloc (.cells #[.slice xa q xc] 38)).ownsRow (w2.heap.size + 1) 38 1 (.slice o1 k' o2) k' ovals) := Lib.hid (by
                    have h := o3
                    rw [HL1.out] at h
                    exact h)
                  have HS := Lib.hid (show w2.heap.size + 1 ≤ (wn.alloc (.cells #[.slice xa q xc] 38)).heap.size from Nat.le_trans h6s HXW.out.size)
                  clear hal1 h6s o3 o4 o5 HNO HXO HYO HONE HTWO HOFF
                  go_wp2_with (at_builtin; refine wp_append_from rfl _ _ 37 38 _ 1 24 rfl info_offs (by kernel_rfl) rfl (by decide) (w2.heap.size + 1) (.slice o1 k' o2) k' ovals rfl HO3k.out (some ⟨wn.heap.size, 0, none⟩) 1 1 [.slice xa q xc] rfl (fun h => by cases h) rfl ?_ ?_ (by omega) (by omega) HS.out ?_)
                  · intro ad had j' u hj
                    cases had
                    match j', hj with
                    | 0, hj => cases hj; rw [addr_add]; exact (Blk.new wn _ _).cell 0 rfl
                  · intro u hu
                    simp only [List.mem_cons, List.not_mem_nil, or_false] at hu
                    rcases hu with rfl
                    rfl
                  intro v10 w10 hO10 hg10 hn10
                  obtain ⟨p1, p2, rfl⟩ := own_shape hO10
                  have HO10 := Lib.hid hO10
                  have HN10 := Lib.hid (own_chg HNW.out hg10 (typesF HO3k.out HNW.out (by decide)))
                  have HXV10 := Lib.hid (own_chg HXV.out hg10 (typesF HO3k.out HXV.out (by decide)))
                  have HYV10 := Lib.hid (own_chg HYV.out hg10 (typesF HO3k.out HYV.out (by decide)))
                  have HONE10 : Hid (RowF w10 (w2.heap.size + 1) (.slice p1 (k' + 1) p2) (one ++ [xs])) := Lib.hid (RowF.snoc (a := xa) (c := xc) HO3.out HO4.out HO5.out (own_mono HXV.out H6S.out) (by rw [HL1.out, HLX.out]; exact hO10) (by rw [HL1.out]; exact hg10))
                  have HTW10 : Hid (RowF w10 (w2.heap.size + 1) (.slice u1 two.length u2) two) := Lib.hid (HTW2.out.apart HO3k.out (by rw [HL2.out]; exact HAPT.out.symm) hg10)
                  have HAP10 : Hid (ApartV (.slice p1 (k' + 1) p2) (.slice u1 k' u2)) := Lib.hid (HAPT.out.step hn10 (fun z hz => by have h := HTW2.out.lt z (by rw [HL2.out]; exact hz); simpa using h))
                  have HC10 := Lib.hid (HCW.out.after hg10 (fun z hz hb => (World.ownsRow.lt HO3k.out z hb).1))
                  clear hO10 hg10 hn10 HO3 HO4 HO5 HO3k HNW HXV HYV HTW2 HCW HS
                  have hal2 : Ext w10 (w10.alloc (.cells #[.slice ya q yc] 38)) := (Ext.refl _).alloc _
                  have HC11 := Lib.hid (HC10.out.ext' hal2)
                  obtain ⟨uvals, t3, t4, t5⟩ := HTW10.out.ext hal2
                  have HONE11 := Lib.hid (HONE10.out.ext hal2)
                  have HN11 := Lib.hid (own_chg HN10.out (hal2.chg fun _ => False) fun _ _ => fun a => a)
                  have HYV11 := Lib.hid (own_chg HYV10.out (hal2.chg fun _ => False) fun _ _ => fun a => a)
                  have HT3 := Lib.hid t3
                  have HT4 := Lib.hid t4
                  have HT5 := Lib.hid t5
                  have HT3k : Hid ((w10.alloc (.cells #[.slice ya q yc] 38)).ownsRow (w2.heap.size + 1) 38 1 (.slice u1 k' u2) k' uvals) := Lib.hid (by
                    have h := t3
                    rw [HL2.out] at h
                    exact h)
                  have HS := Lib.hid (show w2.heap.size + 1 ≤ (w10.alloc (.cells #[.slice ya q yc] 38)).heap.size from Nat.le_trans HK8.out.lt HC11.out.size)
                  clear hal2 t3 t4 t5 HN10 HXV10 HYV10 HTW10 HC10 HONE10
                  go_wp2_with (at_builtin; refine wp_append_from rfl _ _ 37 38 _ 1 24 rfl info_offs (by kernel_rfl) rfl (by decide) (w2.heap.size + 1) (.slice u1 k' u2) k' uvals rfl HT3k.out (some ⟨w10.heap.size, 0, none⟩) 1 1 [.slice ya q yc] rfl (fun h => by cases h) rfl ?_ ?_ (by omega) (by omega) HS.out ?_)
                  · intro ad had j' u hj
                    cases had
                    match j', hj with
                    | 0, hj => cases hj; rw [addr_add]; exact (Blk.new w10 _ _).cell 0 rfl
                  · intro u hu
                    simp only [List.mem_cons, List.not_mem_nil, or_false] at hu
                    rcases hu with rfl
                    rfl
                  intro v12 w12 hO12 hg12 hn12
                  obtain ⟨q1, q2, rfl⟩ := own_shape hO12
                  have HN12 := Lib.hid (own_chg HN11.out hg12 (typesF HT3k.out HN11.out (by decide)))
                  have HTW12 : Hid (RowF w12 (w2.heap.size + 1) (.slice q1 (k' + 1) q2) (two ++ [ys])) := Lib.hid (RowF.snoc (a := ya) (c := yc) HT3.out HT4.out HT5.out (own_mono HYV11.out H6S.out) (by rw [HL2.out, HLY.out]; exact hO12) (by rw [HL2.out]; exact hg12))
                  have HONE12 : Hid (RowF w12 (w2.heap.size + 1) (.slice p1 (k' + 1) p2) (one ++ [xs])) := Lib.hid (HONE11.out.apart HT3k.out HAP10.out hg12)
                  have HAP12 : Hid (ApartV (.slice p1 (k' + 1) p2) (.slice q1 (k' + 1) q2)) := Lib.hid (ApartV.symm (HAP10.out.symm.step hn12 (fun z hz => by have h := HONE11.out.lt z hz; simpa using h)))
                  have HC12 := Lib.hid (HC11.out.after hg12 (fun z hz hb => (World.ownsRow.lt HT3k.out z hb).1))
                  clear hO12 hg12 hn12 HT3 HT4 HT5 HT3k HN11 HYV11 HONE11 HC11 HAP10 HS
                  go_wp2
                  go_roundw
                  case rel => exact ⟨L, one ++ [xs], two ++ [ys], a + q, k' + 1, by go_num, by go_num, by omega, by have h := HQE.out; omega, by show w12.ownsRow _ _ _ (.slice na3 nL nc3) L.length _; rw [HNL.out]; exact own_mono (by have h := HN12.out; rw [HNL.out] at h; exact h) (Nat.le_trans H6S.out HX8.out.size), HONE12.out, HTW12.out, HAP12.out, HOFN.out, HC12.out⟩
                  case measure => simp [intOf]; omega
        · have hoo := HOFF.out.offS (by omega) (by omega)
          have hm1 : (1 < m ∧ offE (.inl rest) = (0, 31)) ∨ (m = 1 ∧ ∃ r, rest = [r] ∧ offE (.inl rest) = (r, 0)) := by
            by_cases h : 1 < m
            · exact .inl ⟨h, by show (if 1 < rest.length then ((0 : Int), (31 : Int)) else _) = _; rw [if_pos (by rw [HM.out]; exact h)]⟩
            · right
              have h1 : m = 1 := by omega
              refine ⟨h1, ?_⟩
              have h2 := HM.out
              rw [h1] at h2
              match rest, h2 with
              | [r], _ => exact ⟨r, rfl, rfl⟩
          have HOA := Lib.hid (fun W (hx : Ext w6 W) => leg_Off (n : Int) one o1 o2 W (HONE.out.rounds.ext hx) (by have := HL1.out; omega) (fun r hr x hx => (HOFF.out.okx r hr x hx).2) _ hoo.1)
          have HOB := Lib.hid (fun W (hx : Ext w6 W) => leg_Off (n : Int) two u1 u2 W (HTWO.out.rounds.ext hx) (by have := HL2.out; omega) (fun r hr x hx => (HOFF.out.oky r hr x hx).2) _ hoo.2)
          rw [HL1.out] at HOA
          rw [HL2.out] at HOB
          have HXW := Lib.hid (HX2.out.trans HX26.out)
          have HGO : Hid (¬ k' < 6 ∨ ¬ 1 < m) := Lib.hid (by omega)
          clear hoo hgo
          rcases hm1 with ⟨hm1, he⟩ | ⟨hm1, r, hr, he⟩
          · rw [he] at HOA HOB
            have hk6 : ¬ k' < 6 := by have := HGO.out; omega
            clear he
            have hk6' : ¬ (k' : Int) < 6 := by omega
            have hm1' : (1 : Int) < (m : Int) := by omega
            go_wp2_with fail
            refine (HOA.out _ (Ext.refl _)).mono ?_
            rintro e w7 ⟨rfl, hx7⟩
            go_wp2_with fail
            refine (HOB.out _ hx7).mono ?_
            rintro e w8 ⟨rfl, hx8⟩
            have HXV := Lib.hid (HXW.out.trans (hx7.trans hx8))
            clear hx7 hx8
            go_wp2_with fail
            refine (arm_KnownOut _).mono ?_
            rintro e w9 ⟨rfl, hx9⟩
            go_wp2_with fail
            refine (arm_KnownLeg _).mono ?_
            rintro e w10 ⟨rfl, hx10⟩
            go_wp2
            go_ret
            exact ⟨rfl, HXV.out.trans (hx9.trans hx10)⟩
          · rw [he] at HOA HOB
            subst hr
            subst hm1
            obtain ⟨re', rf', hre, hrc⟩ := OwnI.cells HRO.out
            obtain ⟨rfl, -⟩ : re = re' ∧ rf = rf' := by cases hre; exact ⟨rfl, rfl⟩
            obtain ⟨rg, ro, rfl, y0⟩ := hrc 0 (by simp)
            replace y0 : w6.cell? ⟨rg, ro, none⟩ = some (.int .i64 r) := y0
            have HY0 := Lib.hid y0
            clear hre hrc y0 he
            by_cases hk6 : k' < 6
            · have hk6' : (k' : Int) < 6 := by omega
              go_wp2_with fail
              refine (HOA.out _ (Ext.refl _)).mono ?_
              rintro e w7 ⟨rfl, hx7⟩
              go_wp2_with fail
              refine (HOB.out _ hx7).mono ?_
              rintro e w8 ⟨rfl, hx8⟩
              have HXV := Lib.hid (HXW.out.trans (hx7.trans hx8))
              have y0 := (hx7.trans hx8).cell HY0.out
              have yl := lt_of_cell y0
              simp only at yl
              clear hx7 hx8
              go_wp2_with fail
              refine (arm_KnownOut _).mono ?_
              rintro e w9 ⟨rfl, hx9⟩
              go_wp2_with fail
              refine (arm_KnownLeg _).mono ?_
              rintro e w10 ⟨rfl, hx10⟩
              go_wp2
              go_ret
              exact ⟨rfl, HXV.out.trans (hx9.trans hx10)⟩
            · have hk6' : ¬ (k' : Int) < 6 := by omega
              go_wp2_with fail
              refine (HOA.out _ (Ext.refl _)).mono ?_
              rintro e w7 ⟨rfl, hx7⟩
              go_wp2_with fail
              refine (HOB.out _ hx7).mono ?_
              rintro e w8 ⟨rfl, hx8⟩
              have HXV := Lib.hid (HXW.out.trans (hx7.trans hx8))
              have y0 := (hx7.trans hx8).cell HY0.out
              have yl := lt_of_cell y0
              simp only at yl
              clear hx7 hx8
              go_wp2_with fail
              refine (arm_KnownOut _).mono ?_
              rintro e w9 ⟨rfl, hx9⟩
              go_wp2_with fail
              refine (arm_KnownLeg _).mono ?_
              rintro e w10 ⟨rfl, hx10⟩
              go_wp2
              go_ret
              exact ⟨rfl, HXV.out.trans (hx9.trans hx10)⟩
theorem law_TopTurnedOff (pl : Int) (pts : List (Nat × Nat)) (pa : Option Addr) (pc : Nat) (tn : Int) (w : World) (hpl : 0 ≤ pl ∧ pl ≤ 255) (htn : 0 ≤ tn ∧ tn ≤ 255) (hpt : PtsU w pa pts) (hpn : pts.length ≤ 9223372036854775807) :
    Calls Try.prog 3 #[.int .u8 pl, .slice pa pts.length pc, .int .u8 tn] w fun e w' => e = .returned (.bool true) ∧ Ext w w' := by
  obtain ⟨n0, rfl⟩ := Int.eq_ofNat_of_zero_le hpl.1
  obtain ⟨n1, rfl⟩ := Int.eq_ofNat_of_zero_le htn.1
  exact turned_off n0 pts pa pc n1 w (by omega) (by omega) hpt hpn
end Go.Proofs.Ytpifdeglhalefaa
