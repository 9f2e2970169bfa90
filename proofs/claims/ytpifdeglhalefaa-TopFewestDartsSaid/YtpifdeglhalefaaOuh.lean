/-
  Package out: how many ways there are out of a score.
-/
import Derived.Test.YtpifdeglhalefaaOuf
namespace Go.Proofs.Ytpifdeglhalefaa
open Go.RowKit Go.BigFrame
attribute [local go_sem] Oper.semAt_some Later.cell Later.frozen Lat.cell Lat.frozen NoX
def totK (rows : List (List Int)) (s k : Nat) : Int := ((rows.drop 1).take k).foldl (fun a r => wrap64 (a + r.getD s 0)) 0
theorem totK_succ {rows : List (List Int)} {s k : Nat} (hk : k + 1 < rows.length) : totK rows s (k + 1) = wrap64 (totK rows s k + rows[k + 1].getD s 0) := by
  unfold totK
  rw [List.take_succ_eq_append_getElem (by rw [List.length_drop]; omega), List.foldl_append, List.getElem_drop]
  show wrap64 (_ + (rows[1 + k]'(by omega)).getD s 0) = _
  simp only [Nat.add_comm 1 k]
theorem totK_all {rows : List (List Int)} {s : Nat} : totK rows s (rows.length - 1) = totO rows s := by
  unfold totK totO
  rw [List.take_of_length_le (by rw [List.length_drop]; exact Nat.le_refl _)]
set_option maxHeartbeats 1000000 in
theorem out_total (B base : Nat) (v0 v1 cv : Value) (rows : List (List Int)) (s : Nat) (w : World) (hB : Blk w B #[v0, v1, cv]) (hC : RowsO w base cv rows) (hn : 2 ≤ rows.length) (hl : rows.length ≤ 1000) (hs : ∀ r ∈ rows, s < r.length ∧ r.length ≤ 1000000) :
    Calls Try.prog 45 #[.pointer (some ⟨B, 0, none⟩), .int .i64 s] w fun e w' => e = .returned (.int .i64 (totO rows s)) ∧ Ext w w' := by
  obtain ⟨b, cap, -, -, rfl, hcap, -, -⟩ := hC.at_ (i := 0) (by omega)
  have HC := Lib.hid hC
  have HS := Lib.hid hs
  have h1c : (1 : Int) ≤ (cap : Int) := by omega
  have h1n : (1 : Int) ≤ (rows.length : Int) := by omega
  have hc1 : ¬ cap = 1 := by omega
  have b2 := hB.cell 2 (v := .slice (some ⟨b, 0, none⟩) rows.length cap) rfl
  have bl := hB.lt
  clear hB hC hs
  go_enter Try.func45, Try.ntmps45
  go_wp2
  clear b2 bl
  go_loopw [4, 13] (fun a i wr => ∃ k : Nat, k ≤ rows.length - 1 ∧ a = .int .i64 (totK rows s k) ∧ i = .int .i64 k ∧ Ext w wr) (fun _ i _ => (rows.length - 1) - (intOf i).toNat)
  case atStart => exact ⟨0, Nat.zero_le _, rfl, rfl, Ext.refl w⟩
  case round =>
    obtain ⟨k, hk, rfl, rfl, hx⟩ := hrel
    have HX := Lib.hid hx
    clear hx
    by_cases hlt : k < rows.length - 1
    · obtain ⟨b', cap', a, c, e, -, hcell, hown⟩ := (HC.out.ext HX.out).at_ (i := k + 1) (by omega)
      obtain rfl : b = b' := by cases e; rfl
      have hlr := HS.out rows[k + 1] (List.getElem_mem _)
      have HT := Lib.hid (totK_succ (rows := rows) (s := s) (k := k) (by omega))
      obtain ⟨r, hr⟩ : ∃ y, rows[k + 1] = y := ⟨_, rfl⟩
      rw [hr] at hcell hown hlr HT
      obtain ⟨a', c', e', hcs⟩ := OwnI.cells hown
      obtain rfl : a = a' := by cases e'; rfl
      obtain ⟨rb, ro, rfl, hrc⟩ := hcs s hlr.1
      rw [show r.getD s 0 = r[s]'hlr.1 by simp [hlr.1]] at HT
      obtain ⟨x, hx⟩ : ∃ y, r[s]'hlr.1 = y := ⟨_, rfl⟩
      rw [hx] at HT hrc
      have hcell' : wr.cell? ⟨b, 1 + k, none⟩ = some (.slice (some ⟨rb, ro, none⟩) r.length c) := by rw [Nat.add_comm]; exact hcell
      have l1 := lt_of_cell hcell'
      have l2 := lt_of_cell hrc
      simp only at l1 l2
      have hsl : (s : Int) < (r.length : Int) := by omega
      have hkl : (k : Int) < ((rows.length - 1 : Nat) : Int) := by omega
      have hkn : k < rows.length - 1 := hlt
      clear hr hx hown hcs e e' hlr hcell
      go_wp2
      go_roundw
      case rel => exact ⟨k + 1, by omega, by rw [HT.out], by go_num, HX.out⟩
      case measure => simp [intOf]; omega
    · obtain rfl : rows.length - 1 = k := by omega
      go_wp2
      go_ret
      exact ⟨by rw [← totK_all]; rfl, HX.out⟩
end Go.Proofs.Ytpifdeglhalefaa
