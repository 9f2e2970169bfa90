/-
  Package leg: a leg while it is played: check.
-/
import Derived.Test.YtpifdeglhalefaaLegE
import Derived.Test.YtpifdeglhalefaaSen
namespace Go.Proofs.Ytpifdeglhalefaa
open Go.RowKit Go.BigFrame
attribute [local go_sem] Later.cell Later.frozen Lat.cell Lat.frozen
/-- The cells of a leg while it is played. -/
def gmC (cv : Value) (r : Rul) (lv dv iv : Value) (next round : Int) (over : Bool) (wv : Value) (em : Nat) (done : Int) : Array Value :=
  #[cv, .int .i64 r.first, .int .i64 r.rounds, .bool r.equal, lv, dv, iv, .int .i64 next, .int .i64 round, .bool over, wv, .map (some em), .int .i64 done]
/-- The error with which a visit cannot be thrown by its player. -/
def chkS (n : Nat) (next : Int) (over : Bool) (p : Int) : Int := if over = true then 33 else if ins 0 ((n : Int) - 1) [p] = false then 2 else if (p != next) = true then 30 else 0
/-- While a list of one number is made and handed on. -/
def OneG (p : Int) (L : Nat → Bool) (j : Nat) (v : Value) (w : World) : Prop := L j = true → ∃ k, v = .slice (some ⟨k, 0, none⟩) 1 1 ∧ w.cell? ⟨k, 0, none⟩ = some (.int .i64 p)
def OneR (v : Value) : Prop := ∃ k, v = .slice (some ⟨k, 0, none⟩) 1 1
theorem CellsAt.cell1 {w : World} {k : Nat} {x : Int} (h : w.cell? ⟨k, 0, none⟩ = some (.int .i64 x)) : CellsAt w .i64 (some ⟨k, 0, none⟩) [x] := fun i hi => by
  match i, hi with
  | 0, _ => exact ⟨k, 0, rfl, h⟩
theorem game_check (r : Rul) (ca : Option Addr) (cc : Nat) (lv dv iv wv : Value) (next round done : Int) (over : Bool) (em b : Nat) (bv : Value) (p : Int) (w : World) (hlen : r.counts.length ≤ 9223372036854775807)
    (h : Blk w b (gmC (.slice ca r.counts.length cc) r lv dv iv next round over wv em done)) (_hbv : bv.cells = #[bv]) :
    Calls Try.prog 65 #[.pointer (some ⟨b, 0, none⟩), .agg #[.int .i64 p, bv]] w fun e w' => e = .returned (.int .i64 (chkS r.counts.length next over p)) ∧ Ext w w' := by
  have hw : wrap64 ((r.counts.length : Int) - 1) = (r.counts.length : Int) - 1 := wrap64_in' ⟨by omega, by omega⟩
  have c0 := h.cell 0 (v := .slice ca r.counts.length cc) rfl
  have c7 := h.cell 7 (v := .int .i64 next) rfl
  have c9 := h.cell 9 (v := .bool over) rfl
  have hlt := h.lt
  have H := Lib.hid h
  clear h
  cases over
  case true =>
    go_enter Try.func65, Try.ntmps65
    go_wp2
    go_ret
    exact ⟨rfl, (Ext.refl w).alloc _⟩
  have hlt1 : b < w.heap.size + 1 := by omega
  go_enter Try.func65, Try.ntmps65
  go_wp2
  generalize hi : ins 0 ((r.counts.length : Int) - 1) [p] = ii
  refine wp_region_lat (by kernel_rfl) (fun _ _ => False) (fun k => k == 9 || k == 10) (fun k v => (k = 9 → OneR v) ∧ (k = 10 → v = .bool ii)) (fun L u w' => OneG p L 9 (u 9) w')
    (by kernel_rfl) (fun k hk => by simp only [Bool.or_eq_true, beq_iff_eq] at hk; show k < 13; omega) (fun L L' _ _ hh hg hl => hg (by rw [← hh 9 rfl]; exact hl)) (fun L u w' w'' hg hx hl => let ⟨k, h1, h2⟩ := hg hl; ⟨k, h1, hx.cell h2⟩)
    (fun k => if k = 10 then .bool ii else .slice (some ⟨0, 0, none⟩) 1 1) (fun k hk => ⟨fun h => by subst h; exact ⟨0, rfl⟩, fun h => by subst h; rfl⟩) (fun h => by cases h) ?_
  intro T hT hne u hu
  obtain ⟨k, hk⟩ := (hu 9 rfl).1 rfl
  have hu10 := (hu 10 rfl).2 rfl
  refine lx_next 9 (by rfl) (by decide) ?_
  dsimp only [List.take, List.drop]
  repeat (go_big_quiet_step (fail))
  refine wpQuiet_nil ?_
  refine lx_loud (by rfl) (by kernel_rfl) ?_ (fun K hK => ?_)
  · intro L w3 hL _ hcl hC hG
    obtain ⟨z, rfl⟩ := hC
    go_wp2
    exact ⟨⟨_, rfl⟩, ⟨z.ext ((Ext.refl _).alloc _), rfl⟩, fun _ => ⟨z.world.heap.size, rfl, by simp [go_sem]⟩⟩
  rw [hk]
  go_simp
  with_reducible refine hK _ ?_
  clear hK K
  refine lx_loud (by rfl) (by kernel_rfl) ?_ (fun K hK => ?_)
  · intro L w3 hL hd hcl hC hG
    obtain ⟨k', hk', hc⟩ := hG (hd 9 (by kernel_rfl))
    obtain rfl : k' = k := by rw [hk] at hk'; cases hk'; rfl
    obtain ⟨z, rfl⟩ := hC
    go_wp2_with fail
    refine (leg_within 0 ((r.counts.length : Int) - 1) [p] _ 1 _ (by simp) (CellsAt.cell1 hc)).mono ?_
    rintro e w4 ⟨rfl, hx4⟩
    rw [hi]
    go_wp2
    exact ⟨rfl, ⟨z.ext hx4, rfl⟩, fun _ => ⟨k', hk', hx4.cell hc⟩⟩
  rw [hu10]
  go_simp
  with_reducible refine hK _ ?_
  clear hK K
  clear hk hu10 hu hT
  cases ii
  all_goals
    refine lx_next 2 (by rfl) (by decide) ?_
    dsimp only [List.take, List.drop]
    repeat (go_big_quiet_step (fail))
    refine wpQuiet_nil ?_
    refine lx_nil ?_
    intro z _
    have hx : Ext w z.world := Chg.to_ext ((Ext.refl w).alloc _) z.chg (by rintro i ⟨o, h⟩; exact h.elim)
    have hz0 : z.world.cell? ⟨w.heap.size, 0, none⟩ = some (.int .i64 p) := by rw [z.cell (by simp) (by simp)]; simp [go_sem]
  case false =>
    clear hz0
    go_wp2
    go_ret
    exact ⟨ret_int (by simp only [chkS, hi, Bool.false_eq_true, if_false, if_true]), hx⟩
  replace c7 := hx.cell c7
  have hlt2 := lt_of_cell hz0
  have hlt3 : b < z.world.heap.size := lt_of_cell c7
  generalize z.world = w1 at *
  clear c0 c9 hlt hlt1 hne z H
  go_wp2
  cases e1 : p != next
  all_goals
    refine wp_region_later (by kernel_rfl) (by kernel_rfl) ?_
    repeat (go_big_quiet_step (fail))
    refine wpQuiet_nil ?_
    intro w2 hw2
    obtain ⟨⟨w2, hx2⟩, rfl⟩ := hw2
    go_wp2
    go_ret
    exact ⟨ret_int (by simp only [chkS, hi, e1, Bool.false_eq_true, Bool.true_eq_false, if_false, if_true]), hx.trans hx2⟩
end Go.Proofs.Ytpifdeglhalefaa
