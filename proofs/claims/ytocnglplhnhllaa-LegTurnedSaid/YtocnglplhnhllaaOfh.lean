/-
  Package leg: those who have thrown the best darts.
-/
import Derived.Test.YtocnglplhnhllaaOfg
import Derived.Test.YtocnglplhnhllaaOwn
namespace Go.Proofs.Ytocnglplhnhllaa
open Go.RowKit Go.BigFrame
attribute [local go_sem] Later.cell Later.frozen
/-- The players whose dart has a rank. -/
def bestW (r : Int) : List Int → List Toss → List Int
  | p :: ps, o :: l => if o.rank = r then p :: bestW r ps l else bestW r ps l
  | _, _ => []
/-- The least rank. -/
def leastT (l : List Toss) : Int := match l with | [] => 0 | x :: t => (minT x t).rank
theorem minT_fit {m : Toss} {l : List Toss} (hm : m.Fit) (h : ∀ x ∈ l, x.Fit) : (minT m l).Fit := by
  induction l generalizing m with
  | nil => exact hm
  | cons x l ih =>
    unfold minT
    refine ih ?_ (fun y hy => h y (List.mem_cons_of_mem _ hy))
    split
    · exact h x List.mem_cons_self
    · exact hm
theorem leg_best (ps : List Int) (l : List Toss) (a a' : Option Addr) (c c' : Nat) (w : World) (hp : CellsAt w .i64 a ps) (ha : TossAt w a' l) (hl : 0 < l.length) (hlen : l.length ≤ 1000000000000) (hpl : ps.length = l.length) (hf : ∀ x ∈ l, x.Fit) :
    Calls Try.prog 56 #[.slice a ps.length c, .slice a' l.length c'] w fun e w' => ∃ v, e = .returned v ∧ OwnI w' w.heap.size v (bestW (leastT l) ps l) ∧ Ext w w' := by
  have hm := minFunc_best l a' c' w ha hl hlen hf _ rfl
  have hfit : (minT l[0] (l.drop 1)).Fit := minT_fit (hf _ (List.getElem_mem hl)) (fun x hx => hf x (List.mem_of_mem_drop hx))
  have hr : leastT l = (minT l[0] (l.drop 1)).rank := by
    cases l with
    | nil => simp at hl
    | cons x t => rfl
  rw [hr]
  generalize minT l[0] (l.drop 1) = M at *
  have HP := Lib.hid hp
  have HA := Lib.hid ha
  have HF := Lib.hid hf
  have HM := Lib.hid hm
  clear hp ha hf hm hr
  obtain ⟨Mb, Mf⟩ := M
  have hR := off_rank ⟨Mb, Mf⟩
  generalize hRv : Toss.rank ⟨Mb, Mf⟩ = r at *
  have HR := Lib.hid hR
  clear hR
  go_enter Try.func56, Try.ntmps56
  go_wp2_with fail
  refine HM.out.mono ?_
  clear HM
  rintro e w1 ⟨rfl, hx1⟩
  unfold Toss.agg
  go_wp2
  go_loopw [4, 12] (fun v i wr => ∃ (k : Nat) (xs : List Int), k ≤ l.length ∧ i = .int .i64 k ∧ xs ++ bestW r (ps.drop k) (l.drop k) = bestW r ps l ∧ xs.length ≤ k ∧ OwnI wr (w1.heap.size + 1) v xs ∧ Blk wr w1.heap.size #[.int .i64 Mb, .int .i64 Mf] ∧ Ext w wr) (fun _ i _ => l.length - (intOf i).toNat)
  case atStart => exact ⟨0, [], Nat.zero_le _, rfl, rfl, Nat.le_refl _, OwnI.nil _ _, Blk.at _ (by simp), hx1.alloc _⟩
  case round =>
    obtain ⟨k, xs, hk, rfl, hS, hxl, hO, hV, hx⟩ := hrel
    have HS := Lib.hid hS
    have HO := Lib.hid hO
    have HV := Lib.hid hV
    have hvlt := hV.lt
    have v0 := hV.cell 0 (v := .int .i64 Mb) rfl
    have v1 := hV.cell 1 (v := .int .i64 Mf) rfl
    clear hS hO hV
    by_cases hlt : k < l.length
    · obtain ⟨b, off, rfl, hc0, hc1⟩ := HA.out k hlt
      obtain ⟨b', off', rfl, hp0⟩ := HP.out k (by omega)
      replace hc0 := hx.cell hc0
      replace hc1 := hx.cell hc1
      replace hp0 := hx.cell hp0
      have hlt0 : b < wr.heap.size := lt_of_cell hc0
      have hlt1 : b' < wr.heap.size := lt_of_cell hp0
      have hd1 : l.drop k = l[k] :: l.drop (k + 1) := by simp
      have hd2 : ps.drop k = ps[k] :: ps.drop (k + 1) := by simp
      have HK := Lib.hid (off_rank l[k])
      have HP0 := Lib.hid hp0
      go_wp2
      refine wp_region_later (by kernel_rfl) (by kernel_rfl) ?_
      repeat (go_big_quiet_step (first | with_reducible refine Calls.later (HK.out _) | with_reducible refine Calls.later (HR.out _)))
      refine wpQuiet_nil ?_
      intro w3 hw3
      obtain ⟨⟨w3, hx3⟩, rfl⟩ := hw3
      have hx3' := ((Ext.refl wr).alloc _).trans hx3
      have HV3 := Lib.hid (HV.out.ext hx3')
      have HO3 := Lib.hid (HO.out.ext hx3')
      have hE3 := hx.trans hx3'
      have hp3 := hx3'.cell HP0.out
      have hsz : w1.heap.size + 1 ≤ w3.heap.size := by have := Below.size hx3'; omega
      have hlt3 : b' < w3.heap.size := lt_of_cell hp3
      clear hc0 hc1 hp0 v0 v1 hvlt hlt0 hlt1 hx3 hx3' HP0
      cases e1 : l[k].rank == r
      · go_wp2
        go_roundw
        case rel => exact ⟨k + 1, xs, by omega, by go_num, by rw [← HS.out, hd1, hd2]; simp only [bestW]; rw [if_neg (by simpa using e1)], by omega, HO3.out, HV3.out, hE3⟩
        case measure => simp [intOf]; omega
      · go_wp2_with (at_builtin; refine wp_append_i rfl _ _ rfl (w1.heap.size + 1) _ xs rfl (OwnI.ext HO3.out ((Ext.refl w3).alloc _)) ⟨w3.heap.size, 0, none⟩ 1 ps[k] rfl (by simp [go_sem]) (by omega) (by simp; omega) ?_)
        intro v' w4 hO4 hg
        have hE4 := Ext.grown (hE3.alloc _) hg (fun k hk => by have := HO3.out.from k hk; have := Below.size hx1; omega)
        have hV4 := (HV3.out.alloc _).chg (grown_chg hg) (fun e => by have := HO3.out.from _ e; omega)
        have HO4 := Lib.hid hO4
        have HV4 := Lib.hid hV4
        clear hO4 hg hV4
        go_wp2
        go_roundw
        case rel => exact ⟨k + 1, xs ++ [ps[k]], by omega, by go_num, by rw [← HS.out, hd1, hd2]; simp only [bestW]; rw [if_pos (by simpa using e1), List.append_assoc]; rfl, by simp; omega, HO4.out, HV4.out, hE4⟩
        case measure => simp [intOf]; omega
    · obtain rfl : k = l.length := by omega
      have hxs : xs = bestW r ps l := by
        rw [← HS.out, show l.drop l.length = [] by simp]
        cases ps.drop l.length <;> simp [bestW]
      subst hxs
      go_wp2
      go_ret
      exact ⟨_, rfl, own_mono HO.out (by have := Below.size hx1; omega), hx⟩
end Go.Proofs.Ytocnglplhnhllaa
