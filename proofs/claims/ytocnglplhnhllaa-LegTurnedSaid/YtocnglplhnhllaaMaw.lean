/-
  Package leg: Match.
-/
import Derived.Test.YtocnglplhnhllaaMav
namespace Go.Proofs.Ytocnglplhnhllaa
open Go.RowKit
set_option maxHeartbeats 1000000 in
theorem leg_Match (m : Mt) (l : List Int) (a : Option Addr) (c : Nat) (w : World) (ha : CellsAt w .i64 a l) (hlen : l.length ≤ 1000000000000) (T : Sc × Int × Int) (hT : matS m l = T) :
    Calls Try.prog 31 #[.agg #[.int .i64 m.legs, .int .i64 m.sets, .int .i64 m.clear, .int .i64 m.extra, .int .i64 m.first], .slice a l.length c] w fun e w' => e = .returned (.tuple #[T.1.agg, .int .i64 T.2.1, .int .i64 T.2.2]) ∧ Ext w w' := by
  have HT := Lib.hid hT
  have hA := Lib.hid ha
  clear hT ha
  go_enter Try.func31, Try.ntmps31
  go_wp2_with fail
  refine (leg_isMatch m _).mono ?_
  rintro e w1 ⟨rfl, hx1⟩
  have hb : Blk w1 w.heap.size #[.int .i64 m.legs, .int .i64 m.sets, .int .i64 m.clear, .int .i64 m.extra, .int .i64 m.first] := ((Blk.at _ (by simp)).alloc _).ext hx1
  have hz : Blk w1 (w.heap.size + 1) #[.int .i64 0, .int .i64 0, .int .i64 0, .int .i64 0, .int .i64 0, .int .i64 0] := (Blk.at _ (by simp)).ext hx1
  have hE := (((Ext.refl w).alloc (.cells #[.int .i64 m.legs, .int .i64 m.sets, .int .i64 m.clear, .int .i64 m.extra, .int .i64 m.first] 68)).alloc _).trans hx1
  clear hx1
  cases hok : m.ok
  case false =>
    obtain ⟨⟨z0, z1, z2, z3, z4, z5⟩, zs, f0, f1, f2, f3, f4, f5⟩ := hz.six
    clear hz hb
    go_wp2
    refine bodyPost_ret (v := .tuple #[Sc.zero.agg, .int .i64 0, .int .i64 2]) (by simp [results, Try.results31, go_sem, Sc.zero, Sc.agg, *]) rfl ⟨?_, six_ext hE (by simp) _ _ _ _ _ _⟩
    rw [← HT.out]; simp [matS, hok]
  have hm := Mt.ok_bounds hok
  have c0 := hb.cell 0 (v := .int .i64 m.legs) rfl
  have c1 := hb.cell 1 (v := .int .i64 m.sets) rfl
  have c2 := hb.cell 2 (v := .int .i64 m.clear) rfl
  have c3 := hb.cell 3 (v := .int .i64 m.extra) rfl
  have c4 := hb.cell 4 (v := .int .i64 m.first) rfl
  have hlt := hb.lt
  have HZ := Lib.hid hz
  have hzlt := hz.lt
  clear hb hz
  go_wp2
  clear c0 c1 c2 c3 c4
  go_loopw [24] (fun i wr => ∃ (k : Nat) (x : Sc) (set : Int), k ≤ l.length ∧ i = .int .i64 k ∧ T = matE (matW m (l.drop k) k x set) ∧ x.inv set k ∧ Blk wr w1.heap.size (matC m x set) ∧
      Blk wr (w.heap.size + 1) #[.int .i64 0, .int .i64 0, .int .i64 0, .int .i64 0, .int .i64 0, .int .i64 0] ∧ Ext w wr) (fun i _ => l.length - (intOf i).toNat)
  case atStart =>
    refine ⟨0, ⟨0, 0, 0, 0, m.first, -1⟩, m.first, Nat.zero_le _, rfl, ?_, ?_, Blk.at _ (by simp), HZ.out.alloc _, hE.alloc _⟩
    · rw [← HT.out]; simp [matS, hok]
    · unfold Sc.inv; simp only; omega
  case round =>
    obtain ⟨k, x, set, hk, rfl, hS, hinv, hV, hZ, hx⟩ := hrel
    have HS := Lib.hid hS
    have HI := Lib.hid hinv
    clear hS hinv HT HZ
    have hvlt := hV.lt
    have v10 := hV.cell 10 (v := .int .i64 x.winner) rfl
    by_cases hlt2 : k < l.length
    · obtain ⟨b, off, rfl, hc0⟩ := hA.out k hlt2
      replace hc0 := hx.cell hc0
      have hdrop : l.drop k = l[k] :: l.drop (k + 1) := by simp
      cases e1 : decide (0 ≤ x.winner)
      · go_wp2_with fail
        refine (leg_within_1 _ _ _ _ _ (by simp)).mono ?_
        rintro e w2 ⟨rfl, hx2⟩
        have hV2 := hV.ext hx2
        have hZ2 := hZ.ext hx2
        have hE2 := hx.trans hx2
        clear hV hZ hx2 hc0
        cases e2 : ins 0 1 [l[k]]
        · obtain ⟨⟨z0, z1, z2, z3, z4, z5⟩, zs, f0, f1, f2, f3, f4, f5⟩ := hZ2.six
          clear hZ2 hV2
          go_wp2
          refine bodyPost_ret (v := .tuple #[Sc.zero.agg, .int .i64 k, .int .i64 2]) (by simp [results, Try.results31, go_sem, Sc.zero, Sc.agg, *]) rfl ⟨?_, six_ext hE2 (by simp) _ _ _ _ _ _⟩
          rw [HS.out, hdrop]
          simp only [matW, matE, e1, e2, Bool.false_eq_true, ↓reduceIte]
        · have hp : l[k] = 0 ∨ l[k] = 1 := by have := ins_one.1 e2; omega
          have hinv := HI.out
          have hin := Sc.inv_add (m := m) hinv hp (by simpa using e1)
          have hinv' := hinv
          unfold Sc.inv at hinv'
          have hAdd := match_add m x set l[k] w1.heap.size w2 hV2 hm.1 ⟨by omega, by omega, by omega, by omega, by omega⟩ (by omega) hp _ rfl
          clear hinv hinv' hV2
          have HI2 := Lib.hid hin
          clear hin
          have HZ2 := Lib.hid hZ2
          clear hZ2
          go_wp2_with fail
          refine hAdd.mono ?_
          clear hAdd
          rintro e w3 ⟨rfl, hV3, hC3⟩
          have hZ3 := HZ2.out.chg hC3 (by omega)
          have hE3 := Chg.to_ext hE2 hC3 (by rintro i rfl; omega)
          clear hC3
          go_wp2
          go_roundw
          case rel => exact ⟨k + 1, (m.add x set l[k]).1, (m.add x set l[k]).2, by omega, by go_num, by rw [HS.out, hdrop]; simp only [matW, e1, e2, Bool.false_eq_true, Bool.true_eq_false, ↓reduceIte]; rfl, HI2.out, hV3, hZ3, hE3⟩
          case measure => simp [intOf]; omega
      · obtain ⟨⟨z0, z1, z2, z3, z4, z5⟩, zs, f0, f1, f2, f3, f4, f5⟩ := hZ.six
        clear hZ hV
        go_wp2
        refine bodyPost_ret (v := .tuple #[Sc.zero.agg, .int .i64 k, .int .i64 33]) (by simp [results, Try.results31, go_sem, Sc.zero, Sc.agg, *]) rfl ⟨?_, six_ext hx (by simp) _ _ _ _ _ _⟩
        rw [HS.out, hdrop]
        simp only [matW, matE, e1, ↓reduceIte]
    · obtain rfl : k = l.length := by omega
      have hT : T = (x, 0, 0) := by rw [HS.out]; simp [matW, matE]
      clear HS HI
      have HV := Lib.hid hV
      have HZ := Lib.hid hZ
      obtain ⟨-, ⟨v5, v6, v7, v8, v9, v10'⟩, -⟩ := hV.mat
      obtain ⟨⟨z0, z1, z2, z3, z4, z5⟩, zs, f0, f1, f2, f3, f4, f5⟩ := hZ.six
      clear hZ hV v10'
      obtain ⟨s0, s1, l0, l1, fi, wi⟩ := x
      go_wp2
      generalize hW : World.setCell _ _ _ = W
      have hE4 : Ext w W := by rw [← hW]; exact six_ext hx (by simp) _ _ _ _ _ _
      have hZ4 : Blk W (w.heap.size + 1) #[.int .i64 s0, .int .i64 s1, .int .i64 l0, .int .i64 l1, .int .i64 fi, .int .i64 wi] := by rw [← hW]; exact six_set HZ.out _ _ _ _ _ _
      obtain ⟨⟨q0, q1, q2, q3, q4, q5⟩, _⟩ := hZ4.six
      refine bodyPost_ret (v := .tuple #[Sc.agg ⟨s0, s1, l0, l1, fi, wi⟩, .int .i64 0, .int .i64 0]) (by simp [results, Try.results31, go_sem, Sc.agg, q0, q1, q2, q3, q4, q5]) rfl ⟨?_, hE4⟩
      first | rfl | rw [hT]
end Go.Proofs.Ytocnglplhnhllaa
