/-
  unchanged: two lists of visits that read alike are called unchanged.
-/
import Derived.Test.YtocnglplhnhllaaVit
import Derived.Test.YtocnglplhnhllaaRfr
namespace Go.Proofs.Ytocnglplhnhllaa
open Go.RowKit Go.BigFrame
attribute [local go_sem] Later.cell Later.frozen
set_option maxRecDepth 100000 in
set_option maxHeartbeats 4000000 in
theorem law_unchanged (l : List LV) (a b : Option Addr) (c d : Nat) (w : World) (ha : VisAt w a l) (hb : VisAt w b l) (hl : l.length ≤ 9223372036854775807) (hf : ∀ v ∈ l, v.beds.length ≤ 9223372036854775807) :
    Calls Try.prog 23 #[.slice a l.length c, .slice b l.length d] w fun e w' => e = .returned (.bool true) ∧ Ext w w' := by
  have HA := Lib.hid ha
  have HB := Lib.hid hb
  have HF := Lib.hid hf
  clear ha hb hf
  go_enter Try.func23, Try.ntmps23
  go_wp2
  go_loopw [5] (fun i wr => ∃ k : Nat, k ≤ l.length ∧ i = .int .i64 k ∧ Ext w wr) (fun i _ => l.length - (intOf i).toNat)
  case atStart => exact ⟨0, Nat.zero_le _, rfl, Ext.refl w⟩
  case round =>
    obtain ⟨k, hk, rfl, hx⟩ := hrel
    by_cases hlt : k < l.length
    · obtain ⟨b1, o1, ba1, bc1, rfl, p0, p1, hbe1⟩ := HA.out k hlt
      obtain ⟨b2, o2, ba2, bc2, rfl, q0, q1, hbe2⟩ := HB.out k hlt
      have hlb := HF.out _ (List.getElem_mem hlt)
      have HP0 := Lib.hid p1
      have HQ0 := Lib.hid q1
      replace p0 := hx.cell p0
      replace p1 := hx.cell p1
      replace q0 := hx.cell q0
      replace q1 := hx.cell q1
      have hl1 := lt_of_cell p0
      have hl2 := lt_of_cell q0
      have HE1 := Lib.hid hbe1
      have HE2 := Lib.hid hbe2
      clear hbe1 hbe2
      go_wp2
      refine wp_region_later (by kernel_rfl) (by kernel_rfl) ?_
      repeat (go_big_quiet_step (fail))
      refine wpQuiet_nil ?_
      intro w4 hw4
      obtain ⟨⟨w4, hx4⟩, rfl⟩ := hw4
      have hx5 := hx.trans hx4
      clear p0 p1 q0 q1 hl1 hl2
      go_wp2
      go_loopw [6] (fun i wq => ∃ j : Nat, j ≤ l[k].beds.length ∧ i = .int .i64 j ∧ Ext w wq) (fun i _ => l[k].beds.length - (intOf i).toNat)
      case atStart => exact ⟨0, Nat.zero_le _, rfl, hx5⟩
      case round =>
        obtain ⟨j, hj, rfl, hx6⟩ := hrel
        have p1 := hx6.cell HP0.out
        have q1 := hx6.cell HQ0.out
        have hl1 := lt_of_cell p1
        have hl2 := lt_of_cell q1
        by_cases hlj : j < l[k].beds.length
        · obtain ⟨b3, o3, rfl, e3⟩ := HE1.out j hlj
          obtain ⟨b4, o4, rfl, e4⟩ := HE2.out j hlj
          replace e3 := hx6.cell e3
          replace e4 := hx6.cell e4
          have hl3 := lt_of_cell e3
          have hl4 := lt_of_cell e4
          go_wp2
          refine wp_region_later (by kernel_rfl) (by kernel_rfl) ?_
          repeat (go_big_quiet_step (fail))
          refine wpQuiet_nil ?_
          intro w7 hw7
          obtain ⟨⟨w7, hx7⟩, rfl⟩ := hw7
          have hx8 := hx6.trans hx7
          go_wp2
          go_roundw
          case rel => exact ⟨j + 1, by omega, by go_num, hx8⟩
          case measure => simp [intOf]; omega
        · go_wp2
          go_roundw
          case rel => exact ⟨k + 1, by omega, by go_num, hx6⟩
          case measure => simp [intOf]; omega
    · go_wp2
      go_ret
      exact ⟨rfl, hx⟩
end Go.Proofs.Ytocnglplhnhllaa
