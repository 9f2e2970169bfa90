/-
  Chapter 3, a hand: Hand.bed, worth, opens.
-/
import Derived.Test.YtocnglplhnhllaaTal
import Derived.Test.YtocnglplhnhllaaKep
namespace Go.Proofs.Ytocnglplhnhllaa
open Go.RowKit Go.BigFrame
attribute [local go_sem] Later.cell Later.frozen
/-- A hand as data. -/
structure Hnd where
  starts : List Int
  gates : Int
  equal : Bool
  rounds : Int
  first : Int
  beds : List Int
def Hnd.cells (h : Hnd) (sa ba : Option Addr) (sc bc : Nat) : Array Value := #[.slice sa h.starts.length sc, .int .u8 h.gates, .bool h.equal, .int .u8 h.rounds, .int .u8 h.first, .slice ba h.beds.length bc]
structure Hnd.fits (h : Hnd) : Prop where
  starts : ∀ x ∈ h.starts, 0 ≤ x ∧ x ≤ 65535
  gates : 0 ≤ h.gates ∧ h.gates ≤ 255
  rounds : 0 ≤ h.rounds ∧ h.rounds ≤ 255
  first : 0 ≤ h.first ∧ h.first ≤ 255
  beds : ∀ x ∈ h.beds, 0 ≤ x ∧ x ≤ 255
  sl : h.starts.length ≤ 9223372036854775807
  bl : h.beds.length ≤ 9223372036854775807
theorem law_worth (b : Int) (hb : validB b = true) (w : World) : Calls Try.prog 63 #[.int .i64 b] w fun e w' => e = .returned (.int .i64 (wrt b)) ∧ Ext w w' := by
  have HB := Lib.hid (validB_i64 hb)
  clear hb
  go_enter Try.func63, Try.ntmps63
  go_wp2
  go_ret
  refine ⟨ret_int ?_, Ext.refl w⟩
  have h1 := wrap_fct HB.out
  have h3 := wrt_bounds HB.out
  have h2 : wrap64 (fct b * b.tmod 100) = wrt b := wrap64_in' (show I64 (wrt b) from ⟨by omega, by omega⟩)
  simp only [h1, h2]
theorem valid_fct' {b : Int} (h : validB b = true) : (b = 0 ∧ fct b = 0) ∨ (b ≠ 0 ∧ 1 ≤ fct b ∧ fct b ≤ 4) := by
  unfold validB at h
  simp only [List.any_cons, List.any_nil, Bool.or_false, Bool.or_eq_true, beq_iff_eq, Bool.and_eq_true, ins_one] at h
  rcases h with (rfl | rfl | rfl) | ⟨h1, _⟩
  · exact .inl ⟨rfl, by decide⟩
  · exact .inr (by decide)
  · exact .inr (by decide)
  · exact .inr ⟨fun e => by subst e; exact absurd h1 (by decide), h1⟩
/-- Whether a dart opens a gate, in the statement's words. -/
theorem law_opens (g b : Int) (hg : 0 ≤ g ∧ g ≤ 2) (hb : validB b = true) (w : World) : Calls Try.prog 62 #[.int .i64 g, .int .i64 b] w fun e w' => e = .returned (.bool (opn4 g b)) ∧ Ext w w' := by
  have hw := wrap_fct (validB_i64 hb)
  rcases valid_fct' hb with ⟨h0, hf⟩ | ⟨h0, hf⟩
  · subst h0
    have e : opn4 g 0 = false := by unfold opn4; split; rfl; split <;> rfl
    rw [e]
    clear e hf hb hg hw
    go_enter Try.func62, Try.ntmps62
    go_wp2
    go_ret
    exact ⟨rfl, Ext.refl w⟩
  · have h0' : (b == 0) = false := by simpa using h0
    have hcase : g = 0 ∨ g = 1 ∨ g = 2 := by omega
    have q0 : opn4 0 b = true := by unfold opn4; rw [if_neg (by decide), if_neg (by decide), ins_one]; exact hf
    have q1 : opn4 1 b = (fct b == 2) := by unfold opn4; rw [if_pos rfl, Bool.eq_iff_iff, ins_one, beq_iff_eq]; omega
    have q2 : opn4 2 b = (fct b == 2 || decide (2 < fct b)) := by unfold opn4; rw [if_neg (by decide), if_pos rfl, Bool.eq_iff_iff, ins_one, Bool.or_eq_true, beq_iff_eq, decide_eq_true_iff]; omega
    have Q0 := Lib.hid q0
    have Q1 := Lib.hid q1
    have Q2 := Lib.hid q2
    clear hb hf hg q0 q1 q2
    rcases hcase with rfl | rfl | rfl
    · go_enter Try.func62, Try.ntmps62
      go_wp2
      go_ret
      exact ⟨ret_bool (by simp [Q0.out, h0]), Ext.refl w⟩
    · cases hq : fct b == 2
      · go_enter Try.func62, Try.ntmps62
        go_wp2
        go_ret
        exact ⟨ret_bool (by simp [Q1.out, hq]), Ext.refl w⟩
      · go_enter Try.func62, Try.ntmps62
        go_wp2
        go_ret
        exact ⟨ret_bool (by simp [Q1.out, hq, h0]), Ext.refl w⟩
    · cases hq : fct b == 2
      · cases hr : decide (2 < fct b)
        · go_enter Try.func62, Try.ntmps62
          go_wp2
          go_ret
          exact ⟨ret_bool (by simp [Q2.out, hq, hr]), Ext.refl w⟩
        · go_enter Try.func62, Try.ntmps62
          go_wp2
          go_ret
          exact ⟨ret_bool (by simp [Q2.out, hq, hr, h0]), Ext.refl w⟩
      · go_enter Try.func62, Try.ntmps62
        go_wp2
        go_ret
        exact ⟨ret_bool (by simp [Q2.out, hq, h0]), Ext.refl w⟩
/-- The bed that a number stands for. -/
def bedN (n : Int) : Int := if 240 ≤ n then (if n % 2 = 0 then 125 else 225) else if n < 20 then 0 else 100 * (1 + n / 20 % 3) + 1 + n % 20
theorem bedN_valid {n : Int} (_h : 0 ≤ n ∧ n ≤ 255) : validB (bedN n) = true := by
  unfold bedN
  split
  · split <;> rfl
  · split
    · rfl
    · unfold validB
      have h1 : fct (100 * (1 + n / 20 % 3) + 1 + n % 20) = 1 + n / 20 % 3 := by
        unfold fct
        rw [Int.tdiv_eq_ediv_of_nonneg (by omega)]
        omega
      have h2 : nmb (100 * (1 + n / 20 % 3) + 1 + n % 20) = 1 + n % 20 := by
        unfold nmb
        rw [Int.tmod_eq_emod_of_nonneg (by omega)]
        omega
      rw [h1, h2]
      have h3 : ins 1 4 [1 + n / 20 % 3] = true := by rw [ins_one]; omega
      have h4 : ins 1 20 [1 + n % 20] = true := by rw [ins_one]; omega
      rw [h3, h4]
      simp
theorem run_beds_0 (x y : Int) (w : World) : (Instr.index 143 (.agg #[.int .i64 x, .int .i64 y]) (.int .i64 0)).run Try.prog w = .ok (.int .i64 x) w := by simp [Instr.index, part, go_sem]
theorem run_beds_1 (x y : Int) (w : World) : (Instr.index 143 (.agg #[.int .i64 x, .int .i64 y]) (.int .i64 1)).run Try.prog w = .ok (.int .i64 y) w := by simp [Instr.index, part, go_sem]
attribute [local go_sem] run_beds_0 run_beds_1
set_option maxRecDepth 100000 in
theorem hand_bed (h : Hnd) (sa ba : Option Addr) (sc bc : Nat) (i : Nat) (hf : h.fits) (hi : i ≤ 1000000) (w : World) (hB : CellsAt w .u8 ba h.beds) :
    Calls Try.prog 61 #[.agg (h.cells sa ba sc bc), .int .i64 i] w fun e w' => ∃ b, e = .returned (.int .i64 b) ∧ validB b = true ∧ Ext w w' := by
  have hl := hf.bl
  have hb := hf.beds
  obtain ⟨starts, gates, equal, rounds, first, beds⟩ := h
  simp only at *
  unfold Hnd.cells
  simp only
  have HF := Lib.hid hb
  have HB := Lib.hid hB
  clear hf hb hB
  by_cases h0 : beds.length = 0
  · have e0 := List.length_eq_zero_iff.1 h0
    subst e0
    go_enter Try.func61, Try.ntmps61
    go_wp2
    go_ret
    exact ⟨0, rfl, by decide, (Ext.refl w).alloc _⟩
  · have hm := Nat.mod_lt i (by omega : beds.length > 0)
    obtain ⟨b, o, rfl, hc⟩ := HB.out (i % beds.length) hm
    obtain ⟨hn0, hn1⟩ := HF.out _ (List.getElem_mem hm)
    have hv := bedN_valid ⟨hn0, hn1⟩
    have HV := Lib.hid hv
    have hlt := lt_of_cell hc
    simp only at hlt
    clear hv
    generalize beds[i % beds.length] = n at *
    go_enter Try.func61, Try.ntmps61
    go_wp2
    go_quiet (fail)
    have hq : n % 2 = 0 ∨ n % 2 = 1 := by omega
    generalize hr : n % 2 = r at *
    have HR := Lib.hid hr
    have HQ := Lib.hid hq
    clear hq
    by_cases h240 : 240 ≤ n
    · rcases HQ.out with hq | hq
      · rw [hq] at hr
        subst hq
        go_wp2
        go_ret
        exact ⟨_, rfl, by decide, ((Ext.refl w).alloc _).drewN _⟩
      · rw [hq] at hr
        go_wp2
        go_ret
        exact ⟨_, rfl, by decide, ((Ext.refl w).alloc _).drewN _⟩
    · by_cases h20 : n < 20
      · go_wp2
        go_ret
        exact ⟨_, rfl, by decide, ((Ext.refl w).alloc _).drewN _⟩
      · go_wp2
        go_ret
        refine ⟨_, rfl, ?_, ((Ext.refl w).alloc _).drewN _⟩
        have hv := HV.out
        unfold bedN at hv
        rw [if_neg (by omega), if_neg (by omega)] at hv
        exact hv
end Go.Proofs.Ytocnglplhnhllaa
