/-
  The reference of chapter 3: far, Off.
-/
import Derived.Test.YtocnglplhnhllaaRfa
import Derived.Test.YtocnglplhnhllaaOfi
import Derived.Test.YtocnglplhnhllaaNew
import Derived.Test.YtocnglplhnhllaaApp
namespace Go.Proofs.Ytocnglplhnhllaa
open Go.RowKit
theorem ref_far (o : Toss) (w : World) : Calls Try.prog 57 #[.agg #[.int .i64 o.bed, .int .i64 o.far]] w fun e w' => e = .returned (.int .i64 o.rank) ∧ Ext w w' := by
  obtain ⟨bed, far⟩ := o
  have HR : Hid (Toss.rank ⟨bed, far⟩ = if bed = 225 then -2 else if bed = 125 then -1 else if bed = 0 then 10001 else far) := Lib.hid rfl
  simp only
  generalize Toss.rank ⟨bed, far⟩ = r at *
  cases h1 : bed == 225
  case' false => cases h2 : bed == 125
  case' false.false => cases h3 : bed == 0
  all_goals
    go_enter Try.func57, Try.ntmps57
    go_wp2
    go_ret
    exact ⟨ret_int (by rw [HR.out]; simp_all), (Ext.refl w).alloc _⟩
/-- The least rank of the first of a list. -/
def minR (l : List Toss) (i : Nat) : Int := (l.take i).foldl (fun m o => min m o.rank) (match l with | [] => 0 | x :: _ => x.rank)
theorem minR_succ {l : List Toss} {i : Nat} (h : i < l.length) : minR l (i + 1) = min (minR l i) l[i].rank := by
  unfold minR
  rw [List.take_succ_eq_append_getElem h, List.foldl_append]
  rfl
theorem minT_fold (m : Toss) (l : List Toss) : (minT m l).rank = l.foldl (fun a o => min a o.rank) m.rank := by
  induction l generalizing m with
  | nil => rfl
  | cons x l ih =>
    unfold minT
    rw [ih, List.foldl_cons]
    congr 1
    split <;> omega
theorem minR_all (l : List Toss) : minR l l.length = leastT l := by
  cases l with
  | nil => rfl
  | cons x t =>
    unfold minR
    rw [List.take_of_length_le (Nat.le_refl _), List.foldl_cons]
    show List.foldl _ (min x.rank x.rank) t = (minT x t).rank
    rw [minT_fold, Int.min_self]
theorem minR_bounds {l : List Toss} (h : ∀ o ∈ l, -2 ≤ o.rank ∧ o.rank ≤ 10001) (i : Nat) : -2 ≤ minR l i ∧ minR l i ≤ 10001 := by
  have key : ∀ (t : List Toss) (m : Int), (∀ o ∈ t, -2 ≤ o.rank ∧ o.rank ≤ 10001) → (-2 ≤ m ∧ m ≤ 10001) → -2 ≤ t.foldl (fun m o => min m o.rank) m ∧ t.foldl (fun m o => min m o.rank) m ≤ 10001 := by
    intro t
    induction t with
    | nil => intro m _ hm; exact hm
    | cons x t ih =>
      intro m ht hm
      have := ht x List.mem_cons_self
      have h2 : -2 ≤ min m x.rank ∧ min m x.rank ≤ 10001 := by omega
      exact ih _ (fun o ho => ht o (List.mem_cons_of_mem _ ho)) h2
  unfold minR
  refine key _ _ (fun o ho => h o (List.mem_of_mem_take ho)) ?_
  cases l with
  | nil => simp
  | cons x t => exact h x List.mem_cons_self
theorem bestW_succ (r : Int) : ∀ (ps : List Int) (l : List Toss) (i : Nat) (hp : i < ps.length) (hl : i < l.length), bestW r (ps.take (i + 1)) (l.take (i + 1)) = bestW r (ps.take i) (l.take i) ++ if l[i].rank = r then [ps[i]] else []
  | p :: ps, o :: l, 0, _, _ => by simp [bestW]
  | p :: ps, o :: l, i + 1, hp, hl => by
    have := bestW_succ r ps l i (by simpa using hp) (by simpa using hl)
    simp only [List.take_succ_cons, bestW, List.getElem_cons_succ]
    split
    · rw [this]; rfl
    · exact this
  | [], _, _, hp, _ => absurd hp (by simp)
  | _ :: _, [], _, _, hl => absurd hl (by simp)
theorem Toss.rank_fit {o : Toss} (h : o.ok = true) (hb : I64 o.bed) : -2 ≤ o.rank ∧ o.rank ≤ 10001 := (Toss.ok_fit h hb).rank
set_option maxRecDepth 100000 in
set_option maxHeartbeats 4000000 in
theorem ref_Off (players : Int) (rs : List (List Toss)) (a : Option Addr) (c : Nat) (w : World) (ha : RoundsAt w a rs) (hlen : rs.length ≤ 9223372036854775807) (hb : ∀ r ∈ rs, ∀ x ∈ r, I64 x.bed) (T : Int × Int) (hT : offS players rs = T) :
    Calls Try.prog 30 #[.int .i64 players, .slice a rs.length c] w fun e w' => e = .returned (.tuple #[.int .i64 T.1, .int .i64 T.2]) ∧ Ext w w' := by
  have HT := Lib.hid hT
  have HA := Lib.hid ha
  have HB := Lib.hid hb
  clear hT ha hb
  go_enter Try.func30, Try.ntmps30
  go_wp2_with fail
  refine (ref_In _ _ _ _).mono ?_
  rintro e w1 ⟨rfl, rfl⟩
  cases h1 : ins 1 8 [players]
  · go_wp2
    go_ret2
    exact ⟨ret_two (by rw [← HT.out]; simp [offS, h1]) (by rw [← HT.out]; simp [offS, h1]), Ext.refl w⟩
  have hp := ins_one.1 h1
  obtain ⟨n, rfl⟩ : ∃ n : Nat, players = n := ⟨players.toNat, by omega⟩
  by_cases h2 : 50 < rs.length
  · go_wp2
    go_ret2
    exact ⟨ret_two (by rw [← HT.out]; simp [offS, h1, h2]) (by rw [← HT.out]; simp [offS, h1, h2]), Ext.refl w⟩
  have hT0 : offE (offW (upto n) rs) = T := by rw [← HT.out]; simp [offS, h1, h2]
  have HT0 := Lib.hid hT0
  clear hT0 HT h1
  go_wp2
  go_loopw [6, 7] (fun v i wr => ∃ k : Nat, k ≤ n ∧ i = .int .i64 k ∧ OwnI wr w.heap.size v (upto k) ∧ Ext w wr ∧ w.heap.size < wr.heap.size) (fun _ i _ => n - (intOf i).toNat)
  case atStart => exact ⟨0, Nat.zero_le _, rfl, own_empty (by simp) (by simp), (Ext.refl w).alloc _, by simp⟩
  case round =>
    obtain ⟨k, hk, rfl, hO, hx, hsz⟩ := hrel
    have HO := Lib.hid hO
    clear hO
    have hul := upto_length k
    have HUL := Lib.hid hul
    clear hul
    by_cases hlt : k < n
    · go_wp2_with (at_builtin; refine wp_append_i rfl _ _ rfl w.heap.size _ (upto k) rfl (HO.out.ext ((Ext.refl wr).alloc _)) ⟨wr.heap.size, 0, none⟩ 1 k rfl (by simp [go_sem]) (by rw [HUL.out]; omega) (by simp; omega) ?_)
      intro v' w4 hO4 hg4
      have hfr := own_lt HO.out
      have hC4 := grown_chg hg4
      have hE4 : Ext w w4 := Chg.to_ext (hx.alloc _) hC4 (fun i e => by have := hfr i e; omega)
      have hs4 : w.heap.size < w4.heap.size := by have := hC4.size; simp at this; omega
      rw [← upto_succ] at hO4
      have HO4 := Lib.hid hO4
      clear hO4 hg4 hC4 hfr
      go_wp2
      go_roundw
      case rel => exact ⟨k + 1, by omega, by go_num, HO4.out, hE4, hs4⟩
      case measure => simp [intOf]; omega
    · obtain rfl : k = n := by omega
      go_wp2
      clear h2
      have HX0 := Lib.hid hx
      go_loopw [6, 8] (fun v i wr => ∃ (k : Nat) (inn : List Int), k ≤ rs.length ∧ i = .int .i64 k ∧ offE (offW inn (rs.drop k)) = T ∧ 0 < inn.length ∧ inn.length ≤ 8 ∧ OwnI wr w.heap.size v inn ∧ Ext w wr) (fun _ i _ => rs.length - (intOf i).toNat)
      case atStart => exact ⟨0, upto k, Nat.zero_le _, rfl, HT0.out, by rw [upto_length]; omega, by rw [upto_length]; omega, HO.out, HX0.out⟩
      case round =>
        clear HO hx HT0 HX0 hsz
        obtain ⟨j, inn, hj, rfl, hS, hi1, hi8, hO, hx⟩ := hrel
        have HS := Lib.hid hS
        obtain ⟨ai, ci, rfl, hci⟩ := hO.cells
        have HO := Lib.hid hO
        have HCI := Lib.hid hci
        clear hS hO
        by_cases hlt2 : j < rs.length
        · obtain ⟨b, off, a', c', rfl, hc0, hr⟩ := HA.out j hlt2
          replace hc0 := hx.cell hc0
          have HR := Lib.hid (hr.ext hx)
          have hdrop : rs.drop j = rs[j] :: rs.drop (j + 1) := by simp
          have hB := HB.out _ (List.getElem_mem hlt2)
          have HS2 := Lib.hid (hdrop ▸ HS.out)
          clear HS hdrop
          generalize rs[j] = r at *
          have HBr := Lib.hid hB
          clear hB hr
          clear hci
          cases e1 : ((inn.length : Int) == 1)
          case true =>
            have e1' : inn.length = 1 := by have := eq_of_beq e1; omega
            have hT' : T = (0, 33) := by rw [← HS2.out]; simp [offW, offE, e1']
            have HT' := Lib.hid hT'
            clear hT' e1'
            go_wp2
            go_ret2
            exact ⟨by rw [HT'.out]; rfl, hx⟩
          have e1' : inn.length ≠ 1 := by intro h; rw [h] at e1; cases e1
          cases e2 : ((r.length : Int) != (inn.length : Int))
          case true =>
            have e2' : r.length ≠ inn.length := by intro h; rw [h] at e2; simp at e2
            have hT' : T = (0, 4) := by rw [← HS2.out]; simp only [offW, if_neg e1', if_pos e2', offE]
            have HT' := Lib.hid hT'
            clear hT' e2'
            go_wp2
            go_ret2
            exact ⟨by rw [HT'.out]; rfl, hx⟩
          have e2' : r.length = inn.length := by simp at e2; omega
          have hr1 : 0 < r.length := by omega
          have hr8 : r.length ≤ 8 := by omega
          have hS3 : (if r.any (fun o => !o.ok) = true then offE (.inr 2) else offE (offW (bestW (leastT r) inn r) (rs.drop (j + 1)))) = T := by
            rw [← HS2.out]; simp only [offW, if_neg e1', if_neg (Decidable.not_not.2 e2')]; split <;> rfl
          have HS3 := Lib.hid hS3
          have E1 := Lib.hid e1'
          have E2 := Lib.hid e2'
          clear e2' hS3 HS2 e1'
          obtain ⟨wq0, rfl⟩ : ∃ x, x = wr := ⟨_, rfl⟩
          go_wp2
          go_loopw [9] (fun i wq => ∃ q : Nat, q ≤ inn.length ∧ i = .int .i64 q ∧ (∀ x ∈ r.take q, x.ok = true) ∧ Ext wq0 wq) (fun i _ => inn.length - (intOf i).toNat)
          case atStart => exact ⟨0, Nat.zero_le _, rfl, by simp, Ext.refl wq0⟩
          case round =>
            obtain ⟨q, hq, rfl, hall, hxq⟩ := hrel
            have HALL := Lib.hid hall
            clear hall
            have hd0 := hxq.cell hc0
            have hEq := hx.trans hxq
            by_cases hlq : q < inn.length
            · have hlr : q < r.length := by have := E2.out; omega
              obtain ⟨b2, o2, rfl, t0, t1⟩ := HR.out q hlr
              replace t0 := hxq.cell t0
              replace t1 := hxq.cell t1
              have hIb := HBr.out _ (List.getElem_mem hlr)
              have htk : r.take (q + 1) = r.take q ++ [r[q]] := List.take_succ_eq_append_getElem hlr
              have HTK := Lib.hid htk
              have hok : r[q].ok = (validB r[q].bed && ins 0 10000 [r[q].far]) := rfl
              have HOK := Lib.hid hok
              have hmem : r[q] ∈ r := List.getElem_mem hlr
              clear htk hok
              generalize r[q] = o at *
              go_wp2_with fail
              refine (ref_Bed o.bed _ hIb).mono ?_
              rintro e w2 ⟨rfl, rfl⟩
              cases hv : validB o.bed
              · have hT' : T = (0, 2) := by rw [← HS3.out, if_pos (List.any_eq_true.2 ⟨o, hmem, by rw [HOK.out, hv]; rfl⟩)]; rfl
                have HT' := Lib.hid hT'
                clear hT'
                go_wp2
                go_ret2
                exact ⟨by rw [HT'.out]; rfl, hEq⟩
              go_wp2_with fail
              refine (ref_In _ _ _ _).mono ?_
              rintro e w2 ⟨rfl, rfl⟩
              cases hf : ins 0 10000 [o.far]
              · have hT' : T = (0, 2) := by rw [← HS3.out, if_pos (List.any_eq_true.2 ⟨o, hmem, by rw [HOK.out, hv, hf]; rfl⟩)]; rfl
                have HT' := Lib.hid hT'
                clear hT'
                go_wp2
                go_ret2
                exact ⟨by rw [HT'.out]; rfl, hEq⟩
              go_wp2
              go_roundw
              case rel => exact ⟨q + 1, by omega, by go_num, fun x hx => by
                rw [HTK.out, List.mem_append, List.mem_singleton] at hx
                rcases hx with hx | rfl
                · exact HALL.out x hx
                · rw [HOK.out, hv, hf]; rfl, hxq⟩
              case measure => simp [intOf]; omega
            · obtain rfl : q = inn.length := by omega
              have hokall : ∀ x ∈ r, x.ok = true := fun x hx => HALL.out x (by rw [List.take_of_length_le (by have := E2.out; omega)]; exact hx)
              have hany : r.any (fun o => !o.ok) = false := List.any_eq_false.2 fun x hx => by rw [hokall x hx]; simp
              have hS4 : offE (offW (bestW (leastT r) inn r) (rs.drop (j + 1))) = T := by rw [← HS3.out, hany]; rfl
              have hrk : ∀ o ∈ r, -2 ≤ o.rank ∧ o.rank ≤ 10001 := fun o ho => Toss.rank_fit (hokall o ho) (HBr.out o ho)
              have hatt := leastT_attained (l := r) hr1
              have hl1 := bestW_ne (leastT r) inn r E2.out.symm hatt
              have hl2 := bestW_length (leastT r) inn r
              have hm0 : r[0].rank = minR r 0 := by cases r with
                | nil => simp at hr1
                | cons x t => rfl
              have HS4 := Lib.hid hS4
              have HRK := Lib.hid hrk
              have HL := Lib.hid (And.intro hl1 hl2)
              have HM0 := Lib.hid hm0
              clear hokall hany hS4 hrk hatt hl1 hl2 hm0 HALL HS3
              obtain ⟨b2, o2, rfl, t0, t1⟩ := HR.out 0 hr1
              replace t0 := hxq.cell t0
              replace t1 := hxq.cell t1
              simp only [Nat.zero_mul, Nat.add_zero] at t0 t1
              go_wp2_with fail
              refine (ref_far r[0] _).mono ?_
              rintro e w2 ⟨rfl, hx2⟩
              rw [HM0.out]
              have hE2 := hEq.trans hx2
              have hX2 := (hxq.trans hx2)
              clear t0 t1 hx2 hd0 HM0
              have hE3 := hE2.alloc (.cells #[] 3)
              have hX3 := Lib.hid (hX2.alloc (.cells #[] 3))
              have hO3 : OwnI (w2.alloc (.cells #[] 3)) wq0.heap.size (.slice (some ⟨w2.heap.size, 0, none⟩) 0 0) [] := own_empty rfl hX2.size
              have HO3 := Lib.hid hO3
              clear hO3 hX2 hE2 hEq
              go_wp2
              generalize World.alloc w2 _ = W3 at *
              generalize w2.heap.size = kn at *
              go_loopw [10, 12] (fun m i wq => ∃ q : Nat, q ≤ inn.length ∧ i = .int .i64 q ∧ m = .int .i64 (minR r q) ∧ Ext W3 wq) (fun _ i _ => inn.length - (intOf i).toNat)
              case atStart => exact ⟨0, Nat.zero_le _, rfl, rfl, Ext.refl W3⟩
              case round =>
                obtain ⟨q, hq, rfl, rfl, hx4⟩ := hrel
                have hd4 := (hX3.out.trans hx4).cell hc0
                have hbd := minR_bounds HRK.out q
                by_cases hlq : q < inn.length
                · have hlr : q < r.length := by have := E2.out; omega
                  obtain ⟨b3, o3, e3, t0, t1⟩ := HR.out q hlr
                  cases e3
                  replace t0 := (hX3.out.trans hx4).cell t0
                  replace t1 := (hX3.out.trans hx4).cell t1
                  have hrk := HRK.out _ (List.getElem_mem hlr)
                  have hms := minR_succ hlr
                  have HMS := Lib.hid hms
                  clear hms
                  generalize r[q] = o at *
                  go_wp2_with fail
                  refine (ref_far o _).mono ?_
                  rintro e w4 ⟨rfl, hx5⟩
                  have hx6 := hx4.trans hx5
                  clear hx4 hx5 hd4 t0 t1
                  go_wp2
                  go_roundw
                  case rel => exact ⟨q + 1, by omega, by go_num, by rw [HMS.out], hx6⟩
                  case measure => simp [intOf]; omega
                · obtain rfl : q = inn.length := by omega
                  have hall : minR r inn.length = leastT r := by rw [← E2.out]; exact minR_all r
                  rw [hall] at hbd ⊢
                  clear hall
                  generalize hlt : leastT r = least at *
                  have HO4 := Lib.hid (HO3.out.ext hx4)
                  have hX4 := Lib.hid (hX3.out.trans hx4)
                  have hE4 := hE3.trans hx4
                  have hsz4 := hE4.size
                  clear hlt hx4 hX3 HO3 hE3 HRK hd4
                  go_wp2
                  go_loopw [11, 13] (fun v i wq => ∃ q : Nat, q ≤ inn.length ∧ i = .int .i64 q ∧ OwnI wq wq0.heap.size v (bestW least (inn.take q) (r.take q)) ∧ Ext wq0 wq) (fun _ i _ => inn.length - (intOf i).toNat)
                  case atStart => exact ⟨0, Nat.zero_le _, rfl, by simpa [bestW] using HO4.out, hX4.out⟩
                  case round =>
                    obtain ⟨q, hq, rfl, hO5, hx5⟩ := hrel
                    have HO5 := Lib.hid hO5
                    have hd5 := hx5.cell hc0
                    have hbl := bestW_length least (inn.take q) (r.take q)
                    rw [List.length_take] at hbl
                    have hbl2 : (bestW least (inn.take q) (r.take q)).length ≤ 8 := by omega
                    clear hO5 hbl
                    by_cases hlq : q < inn.length
                    · have hlr : q < r.length := by have := E2.out; omega
                      obtain ⟨b3, o3, e3, t0, t1⟩ := HR.out q hlr
                      cases e3
                      replace t0 := hx5.cell t0
                      replace t1 := hx5.cell t1
                      obtain ⟨bi, oi, e4, p0⟩ := HCI.out q hlq
                      replace p0 := hx5.cell p0
                      have hbs := bestW_succ least inn r q hlq hlr
                      have HBS := Lib.hid hbs
                      clear hbs
                      generalize r[q] = o at *
                      generalize inn[q] = pl at *
                      generalize hbw : bestW least (inn.take q) (r.take q) = bw at *
                      cases e4
                      go_wp2_with fail
                      refine (ref_far o _).mono ?_
                      rintro e w4 ⟨rfl, hx6⟩
                      have hx7 := hx5.trans hx6
                      have HO6 := Lib.hid (HO5.out.ext hx6)
                      have p1 := hx6.cell p0
                      have hsz7 : wq0.heap.size ≤ w4.heap.size := hx7.size
                      clear hx5 hx6 hd5 t0 t1 p0 HO5 hbw
                      cases hrr : o.rank == least
                      · go_wp2
                        go_roundw
                        case rel => exact ⟨q + 1, by omega, by go_num, by rw [HBS.out, if_neg (by simpa using hrr), List.append_nil]; exact HO6.out, hx7⟩
                        case measure => simp [intOf]; omega
                      · have hp1 := lt_of_cell p1
                        go_wp2_with (at_builtin; refine wp_append_i rfl _ _ rfl wq0.heap.size _ bw rfl (HO6.out.ext ((Ext.refl w4).alloc _)) ⟨w4.heap.size, 0, none⟩ 1 pl rfl (by simp [go_sem]) (by omega) (by simp; omega) ?_)
                        intro v' w5 hO7 hg7
                        have hfr := own_lt HO6.out
                        have hC7 := grown_chg hg7
                        have hE7 : Ext wq0 w5 := Chg.to_ext (hx7.alloc _) hC7 (fun i e => HO6.out.from i e)
                        have hO8 : OwnI w5 wq0.heap.size v' (bestW least (inn.take (q + 1)) (r.take (q + 1))) := by rw [HBS.out, if_pos (by simpa using hrr)]; exact hO7
                        have HO8 := Lib.hid hO8
                        clear hO7 hO8 hg7 hC7 hfr
                        go_wp2
                        go_roundw
                        case rel => exact ⟨q + 1, by omega, by go_num, HO8.out, hE7⟩
                        case measure => simp [intOf]; omega
                    · obtain rfl : q = inn.length := by omega
                      have hfin : bestW least (inn.take inn.length) (r.take inn.length) = bestW least inn r := by rw [List.take_of_length_le (Nat.le_refl _), List.take_of_length_le (by have := E2.out; omega)]
                      rw [hfin] at HO5
                      have hE6 := hx.trans hx5
                      clear hfin hd5 hbl2
                      go_wp2
                      go_roundw
                      case rel => exact ⟨j + 1, _, by omega, by go_num, HS4.out, HL.out.1, by have := HL.out.2; omega, own_mono HO5.out hx.size, hE6⟩
                      case measure => simp [intOf]; omega
        · obtain rfl : j = rs.length := by omega
          have hS : offE (.inl inn) = T := by rw [← HS.out]; simp [offW]
          have HS' := Lib.hid hS
          clear HS hS
          cases e1 : decide ((1 : Int) < inn.length)
          case true =>
            have e1' : 1 < inn.length := by have := of_decide_eq_true e1; omega
            go_wp2
            go_ret2
            have hT' : T = (0, 31) := by rw [← HS'.out]; simp only [offE, if_pos e1']
            exact ⟨by rw [hT']; rfl, hx⟩
          have e1' : ¬ 1 < inn.length := by have := of_decide_eq_false e1; omega
          obtain ⟨b, off, rfl, hc0⟩ := hci 0 hi1
          simp only [Nat.add_zero] at hc0
          have hh : inn.headD 0 = inn[0] := by cases inn with
            | nil => simp at hi1
            | cons x t => rfl
          have HH := Lib.hid hh
          clear hci hh
          go_wp2
          go_ret2
          have hT' : T = (inn[0], 0) := by rw [← HS'.out]; simp only [offE, if_neg e1', HH.out]
          exact ⟨by rw [hT']; rfl, hx⟩
end Go.Proofs.Ytocnglplhnhllaa
