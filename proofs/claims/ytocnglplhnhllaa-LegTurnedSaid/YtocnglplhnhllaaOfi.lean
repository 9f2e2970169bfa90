/-
  Package leg: Off.
-/
import Derived.Test.YtocnglplhnhllaaOfh
namespace Go.Proofs.Ytocnglplhnhllaa
open Go.RowKit
/-- The cells at an address read as rounds of darts. -/
def RoundsAt (w : World) (a : Option Addr) (rs : List (List Toss)) : Prop :=
  ∀ i, (h : i < rs.length) → ∃ b o a' c', a = some ⟨b, o, none⟩ ∧ w.cell? ⟨b, o + i, none⟩ = some (.slice a' rs[i].length c') ∧ TossAt w a' rs[i]
theorem RoundsAt.ext {w w' : World} {a : Option Addr} {rs : List (List Toss)} (h : RoundsAt w a rs) (he : Ext w w') : RoundsAt w' a rs := fun i hi => by
  obtain ⟨b, o, a', c', e, h0, h1⟩ := h i hi
  exact ⟨b, o, a', c', e, he.cell h0, h1.ext he⟩
/-- Who is still in after rounds, or an error. -/
def offW : List Int → List (List Toss) → List Int ⊕ Int
  | inn, [] => .inl inn
  | inn, r :: rs => if inn.length = 1 then .inr 33 else if r.length ≠ inn.length then .inr 4 else if r.any (fun o => !o.ok) = true then .inr 2 else offW (bestW (leastT r) inn r) rs
def offE : List Int ⊕ Int → Int × Int
  | .inr e => (0, e)
  | .inl inn => if 1 < inn.length then (0, 31) else (inn.headD 0, 0)
def upto (n : Nat) : List Int := (List.range n).map fun i : Nat => (i : Int)
def offS (players : Int) (rs : List (List Toss)) : Int × Int :=
  if ins 1 8 [players] = false then (0, 3) else if 50 < rs.length then (0, 5) else offE (offW (upto players.toNat) rs)
theorem upto_succ (n : Nat) : upto (n + 1) = upto n ++ [(n : Int)] := by simp [upto, List.range_succ]
theorem upto_length (n : Nat) : (upto n).length = n := by simp [upto]
theorem minT_mem (m : Toss) (l : List Toss) : minT m l = m ∨ minT m l ∈ l := by
  induction l generalizing m with
  | nil => exact .inl rfl
  | cons x l ih =>
    unfold minT
    rcases ih (if x.rank < m.rank then x else m) with h | h
    · rw [h]; split
      · exact .inr List.mem_cons_self
      · exact .inl rfl
    · exact .inr (List.mem_cons_of_mem _ h)
theorem bestW_length (r : Int) (ps : List Int) (l : List Toss) : (bestW r ps l).length ≤ ps.length := by
  induction ps generalizing l with
  | nil => simp [bestW]
  | cons p ps ih =>
    cases l with
    | nil => simp [bestW]
    | cons o l => have := ih l; simp only [bestW]; split <;> simp <;> omega
theorem bestW_ne (r : Int) (ps : List Int) (l : List Toss) (h : ps.length = l.length) (hr : ∃ o ∈ l, o.rank = r) : 0 < (bestW r ps l).length := by
  induction ps generalizing l with
  | nil => obtain ⟨o, ho, _⟩ := hr; cases l with
    | nil => cases ho
    | cons x l => simp at h
  | cons p ps ih =>
    cases l with
    | nil => obtain ⟨o, ho, _⟩ := hr; cases ho
    | cons x l =>
      simp only [bestW]
      split
      · simp
      · rename_i hx
        obtain ⟨o, ho, ho'⟩ := hr
        rcases List.mem_cons.1 ho with rfl | ho
        · exact absurd ho' hx
        · exact ih l (by simpa using h) ⟨o, ho, ho'⟩
theorem leastT_attained {l : List Toss} (h : 0 < l.length) : ∃ o ∈ l, o.rank = leastT l := by
  cases l with
  | nil => simp at h
  | cons x t =>
    rcases minT_mem x t with h | h
    · exact ⟨x, List.mem_cons_self, by simp only [leastT]; rw [h]⟩
    · exact ⟨_, List.mem_cons_of_mem _ h, rfl⟩
theorem Toss.ok_fit {o : Toss} (h : o.ok = true) (hb : I64 o.bed) : o.Fit := by
  unfold Toss.ok at h
  simp only [Bool.and_eq_true, ins_one] at h
  exact ⟨hb, h.2⟩
set_option maxHeartbeats 1000000 in
theorem leg_Off (players : Int) (rs : List (List Toss)) (a : Option Addr) (c : Nat) (w : World) (ha : RoundsAt w a rs) (hlen : rs.length ≤ 9223372036854775807) (hb : ∀ r ∈ rs, ∀ x ∈ r, I64 x.bed) (T : Int × Int) (hT : offS players rs = T) :
    Calls Try.prog 29 #[.int .i64 players, .slice a rs.length c] w fun e w' => e = .returned (.tuple #[.int .i64 T.1, .int .i64 T.2]) ∧ Ext w w' := by
  have HT := Lib.hid hT
  have HA := Lib.hid ha
  have HB := Lib.hid hb
  clear hT ha hb
  go_enter Try.func29, Try.ntmps29
  go_wp2_with fail
  refine (leg_within_1 _ _ _ _ _ (by simp)).mono ?_
  rintro e w1 ⟨rfl, hx1⟩
  cases h1 : ins 1 8 [players]
  case false =>
    go_wp2
    go_ret2
    exact ⟨by rw [← HT.out]; simp [offS, h1], hx1⟩
  have hpl := ins_one.1 h1
  cases h2 : decide ((50 : Int) < rs.length)
  case true =>
    have h2' : 50 < rs.length := by have := of_decide_eq_true h2; omega
    go_wp2
    go_ret2
    exact ⟨by rw [← HT.out]; simp [offS, h1, h2'], hx1⟩
  have h2' : ¬ 50 < rs.length := by have := of_decide_eq_false h2; omega
  obtain ⟨n, rfl⟩ : ∃ n : Nat, players = n := ⟨players.toNat, by omega⟩
  have HT2 : Hid (offE (offW (upto n) rs) = T) := Lib.hid (by rw [← HT.out]; simp only [offS, h1, if_neg h2', Bool.true_eq_false, if_false]; rfl)
  clear HT
  go_wp2
  go_loopw [6, 20] (fun v i wr => ∃ k : Nat, k ≤ n ∧ i = .int .i64 k ∧ OwnI wr w.heap.size v (upto k) ∧ Ext w wr) (fun _ i _ => n - (intOf i).toNat)
  case atStart => exact ⟨0, Nat.zero_le _, rfl, (OwnI.nil _ _ : OwnI w1 w.heap.size _ []), hx1⟩
  case round =>
    obtain ⟨k, hk, rfl, hO, hx⟩ := hrel
    have HO := Lib.hid hO
    clear hO
    by_cases hlt : k < n
    · have hsz := Below.size hx
      go_wp2_with (at_builtin; refine wp_append_i rfl _ _ rfl w.heap.size _ (upto k) rfl (OwnI.ext HO.out ((Ext.refl wr).alloc _)) ⟨wr.heap.size, 0, none⟩ 1 k rfl (by simp [go_sem]) (by rw [upto_length]; omega) (by simp; omega) ?_)
      intro v' w4 hO4 hg
      have hE4 := Ext.grown (hx.alloc _) hg (fun k hk => HO.out.from k hk)
      have HO4 := Lib.hid hO4
      clear hO4 hg hsz
      go_wp2
      go_roundw
      case rel => exact ⟨k + 1, by omega, by go_num, by rw [upto_succ]; exact HO4.out, hE4⟩
      case measure => simp [intOf]; omega
    · obtain rfl : k = n := by omega
      go_wp2
      clear h2
      go_loopw [6, 30] (fun v i wr => ∃ (k : Nat) (inn : List Int), k ≤ rs.length ∧ i = .int .i64 k ∧ offE (offW inn (rs.drop k)) = T ∧ 0 < inn.length ∧ inn.length ≤ 8 ∧ OwnI wr w.heap.size v inn ∧ Ext w wr) (fun _ i _ => rs.length - (intOf i).toNat)
      case atStart => exact ⟨0, upto k, Nat.zero_le _, rfl, HT2.out, by rw [upto_length]; omega, by rw [upto_length]; omega, HO.out, hx⟩
      case round =>
        clear HO hx HT2
        obtain ⟨j, inn, hj, rfl, hS, hi1, hi8, hO, hx⟩ := hrel
        have HS := Lib.hid hS
        obtain ⟨ai, ci, rfl, hci⟩ := hO.cells
        have HO := Lib.hid hO
        have HCI := Lib.hid hci
        clear hS hO
        by_cases hlt2 : j < rs.length
        · obtain ⟨b, off, a', c', rfl, hc0, hr⟩ := HA.out j hlt2
          replace hc0 := hx.cell hc0
          have HR := Lib.hid (hr.ext hx)
          have hdrop : rs.drop j = rs[j] :: rs.drop (j + 1) := by simp
          have hB := HB.out _ (List.getElem_mem hlt2)
          generalize rs[j] = r at *
          have HBr := Lib.hid hB
          clear hB hr
          clear hci
          cases e1 : ((inn.length : Int) == 1)
          case true =>
            have e1' : inn.length = 1 := by have := eq_of_beq e1; omega
            go_wp2
            go_ret2
            exact ⟨by rw [← HS.out, hdrop]; simp [offW, offE, e1'], hx⟩
          have e1' : inn.length ≠ 1 := by intro h; rw [h] at e1; cases e1
          cases e2 : ((r.length : Int) != (inn.length : Int))
          case true =>
            have e2' : r.length ≠ inn.length := by intro h; rw [h] at e2; simp at e2
            go_wp2
            go_ret2
            have hT' : T = (0, 4) := by rw [← HS.out, hdrop]; simp only [offW, if_neg e1', if_pos e2', offE]
            exact ⟨by rw [hT']; rfl, hx⟩
          have e2' : r.length = inn.length := by simp at e2; omega
          have hTests : TestsO 54 #[] (fun o => !o.ok) r wr := fun x hx w2 _ => off1 x w2 (HBr.out x hx)
          have hCon := containsFunc_o 54 #[] enters_off1 (fun o => !o.ok) r a' c' wr HR.out (by omega) hTests
          clear hTests
          have E2 := Lib.hid e2'
          clear e2'
          go_wp2_with fail
          refine hCon.mono ?_
          clear hCon
          rintro e w2 ⟨rfl, hx2⟩
          have hE2 := hx.trans hx2
          cases e3 : r.any (fun o => !o.ok)
          case true =>
            go_wp2
            go_ret2
            have e2' := E2.out
            have hT' : T = (0, 2) := by rw [← HS.out, hdrop]; simp only [offW, if_neg e1', if_neg (Decidable.not_not.2 e2'), if_pos e3, offE]
            exact ⟨by rw [hT']; rfl, hE2⟩
          have e2' := E2.out
          have hfit : ∀ x ∈ r, x.Fit := fun x hx => Toss.ok_fit (by have := List.any_eq_false.1 e3 x hx; simpa using this) (HBr.out x hx)
          have hbest := leg_best inn r ai a' ci c' w2 (HCI.out.ext hx2) (HR.out.ext hx2) (by omega) (by omega) e2'.symm hfit
          have hatt := leastT_attained (l := r) (by omega)
          have hl1 := bestW_ne (leastT r) inn r e2'.symm hatt
          have hl2 := bestW_length (leastT r) inn r
          have HX2 := Lib.hid hx2
          clear hfit hatt hx2 hc0 e2'
          go_wp2_with fail
          refine hbest.mono ?_
          clear hbest
          rintro e w3 ⟨v, rfl, hO3, hx3⟩
          have hE3 := hE2.trans hx3
          have HO3 := Lib.hid (own_mono hO3 (Below.size hE2) : OwnI w3 w.heap.size v _)
          clear hO3 hx3
          go_wp2
          go_roundw
          have e2' := E2.out
          case rel => exact ⟨j + 1, _, by omega, by go_num, by rw [← HS.out, hdrop]; simp only [offW, if_neg e1', if_neg (Decidable.not_not.2 e2'), e3, Bool.false_eq_true, if_false], hl1, by omega, HO3.out, hE3⟩
          case measure => simp [intOf]; omega
        · obtain rfl : j = rs.length := by omega
          have hS : offE (.inl inn) = T := by rw [← HS.out]; simp [offW]
          clear HS
          cases e1 : decide ((1 : Int) < inn.length)
          case true =>
            have e1' : 1 < inn.length := by have := of_decide_eq_true e1; omega
            go_wp2
            go_ret2
            have hT' : T = (0, 31) := by rw [← hS]; simp only [offE, if_pos e1']
            exact ⟨by rw [hT']; rfl, hx⟩
          have e1' : ¬ 1 < inn.length := by have := of_decide_eq_false e1; omega
          obtain ⟨b, off, rfl, hc0⟩ := hci 0 hi1
          simp only [Nat.add_zero] at hc0
          have hh : inn.headD 0 = inn[0] := by cases inn with
            | nil => simp at hi1
            | cons x t => rfl
          clear hci
          go_wp2
          go_ret2
          have hT' : T = (inn[0], 0) := by rw [← hS]; simp only [offE, if_neg e1', hh]
          exact ⟨by rw [hT']; rfl, hx⟩
end Go.Proofs.Ytocnglplhnhllaa
