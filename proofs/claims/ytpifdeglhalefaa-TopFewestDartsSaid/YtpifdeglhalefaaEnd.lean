/-
  Package leg: end.
-/
import Derived.Test.YtpifdeglhalefaaWin
import Derived.WideMake
namespace Go.Proofs.Ytpifdeglhalefaa
open Go.RowKit Go.BigFrame
attribute [local go_sem] Later.cell Later.frozen run_makeMap_plain
/-- The first k of a list, as a partial function. -/
def leftF (l : List Int) (k : Nat) (x : Int) : Option Int := if 0 ≤ x ∧ x < k then l[x.toNat]? else none
theorem leftF_succ {l : List Int} {k : Nat} (h : k < l.length) : updF (leftF l k) k l[k] = leftF l (k + 1) := by
  funext x
  unfold updF leftF
  by_cases e : x = k
  · subst e; simp [h]; omega
  · rw [if_neg e]
    by_cases e2 : 0 ≤ x ∧ x < k
    · rw [if_pos e2, if_pos (by omega)]
    · rw [if_neg e2, if_neg (by omega)]
theorem leftF_zero (l : List Int) : leftF l 0 = fun _ => none := by
  funext x; unfold leftF; rw [if_neg (by omega)]
/-- With which numbers a leg is won now, if it is. -/
def endS (equal isRound hasE last : Bool) (f g : Int → Option Int) : Option (Int → Option Int) :=
  if hasE = true ∧ (isRound = true ∨ equal = false) then some f else if isRound = true ∧ last = true then some g else none
def EndP (cv : Value) (r : Rul) (lv dv iv : Value) (round done : Int) (em b : Nat) (w w' : World) : Option (Int → Option Int) → Prop
  | none => Ext w w'
  | some g => ∃ wv W m, Blk w' b (gmC cv r lv dv iv (-1) round true wv em done) ∧ OwnI w' w.heap.size wv W ∧ W.Pairwise (· < ·) ∧ IsLeast g m ∧ (∀ x, x ∈ W ↔ g x = some m) ∧ Chg (· = b) w w'
theorem game_end (cv : Value) (r : Rul) (la : Option Addr) (lc : Nat) (left : List Int) (dv iv : Value) (next round done : Int) (over : Bool) (em b n : Nat) (D : DI) (f : Int → Option Int) (w : World)
    (h : Blk w b (gmC cv r (.slice la left.length lc) dv iv next round over (.slice none 0 0) em done)) (hm : w.ownsMap Try.prog 3 (plainElem Try.prog 3) em n D) (hr : Reads D f) (hf : ∀ x c, f x = some c → I64 c) (hd : ∀ x c, f x = some c → I64 x) (hn : n ≤ 1000000)
    (hl : CellsAt w .i64 la left) (hli : ∀ x ∈ left, I64 x) (hll : left.length ≤ 100000) :
    Calls Try.prog 66 #[.pointer (some ⟨b, 0, none⟩)] w fun e w' => e = .returned (.tuple #[]) ∧ EndP cv r (.slice la left.length lc) dv iv round done em b w w' (endS r.equal (done == 0) (decide (0 < Maps.size D)) (round == r.rounds) f (leftF left left.length)) := by
  have c2 := h.cell 2 (v := .int .i64 r.rounds) rfl
  have c3 := h.cell 3 (v := .bool r.equal) rfl
  have c4 := h.cell 4 (v := .slice la left.length lc) rfl
  have c8 := h.cell 8 (v := .int .i64 round) rfl
  have c11 := h.cell 11 (v := .map (some em)) rfl
  have c12 := h.cell 12 (v := .int .i64 done) rfl
  have hlt := h.lt
  have hlen := fun ty => World.ownsMap.len hm under_map ty
  have hW := game_win cv r (.slice la left.length lc) dv iv next round done over em b em n D f w h hm hr hf hd hn
  have HW := Lib.hid hW
  have H := Lib.hid h
  have HLI := Lib.hid hli
  have HL := Lib.hid hl
  clear h hm hr hf hd hW hl hli
  cases e1 : decide (0 < Maps.size D)
  all_goals cases e2 : done == 0
  all_goals cases e3 : r.equal
  all_goals
    rw [e3] at c3
    go_enter Try.func66, Try.ntmps66
    go_wp2_with fail
  all_goals try
    (refine HW.out.mono ?_
     rintro e w1 ⟨rfl, hw⟩
     go_wp2
     refine bodyPost_end (results_none rfl _ _ _) rfl ?_
     refine ⟨rfl, ?_⟩
     exact hw)
  all_goals cases e4 : round == r.rounds
  all_goals
    refine wp_region_later (by kernel_rfl) (by kernel_rfl) ?_
    repeat (go_big_quiet_step (fail))
    refine wpQuiet_nil ?_
    intro w1 hw1
    obtain ⟨⟨w1, hx1⟩, rfl⟩ := hw1
    replace c4 := hx1.cell c4
    have hlt1 := lt_of_cell c4
    have H1 := Lib.hid (H.out.ext hx1)
  all_goals try
    (go_wp2
     refine bodyPost_end (results_none rfl _ _ _) rfl ?_
     exact ⟨rfl, hx1⟩)
  all_goals
    have hmlt := H1.out.lt
    go_wp2
    go_loopw [57] (fun i wr => ∃ (k n' : Nat) (D' : DI), k ≤ left.length ∧ i = .int .i64 k ∧ wr.ownsMap Try.prog 3 (plainElem Try.prog 3) w1.heap.size n' D' ∧ n' ≤ k ∧ Reads D' (leftF left k) ∧ Ext w wr) (fun i _ => left.length - (intOf i).toNat)
    case atStart => exact ⟨0, 0, .map [], Nat.zero_le _, rfl, World.ownsMap_made _ _ _ _, Nat.le_refl _, by rw [leftF_zero]; exact Reads.empty, hx1.alloc _⟩
    case round =>
      obtain ⟨k, n', D', hk, rfl, ho, hn', hrd, hx⟩ := hrel
      have HO := Lib.hid ho
      have HRd := Lib.hid hrd
      clear ho hrd
      by_cases hlt2 : k < left.length
      · obtain ⟨b', off', rfl, hp0⟩ := HL.out k hlt2
        replace hp0 := hx.cell hp0
        have hI := HLI.out _ (List.getElem_mem hlt2)
        have hlt3 := lt_of_cell hp0
        go_wp2_with (at_mapUpdate; refine wp_mapUpdate rfl _ _ _ rfl w1.heap.size n' D' (leftF left k) rfl HO.out (by omega) HRd.out k left[k] ⟨by omega, by omega⟩ hI rfl rfl ?_)
        intro w2 D2 ho2 hr2 hg2
        have hE2 : Ext w w2 := Chg.to_ext hx (grown_chg hg2) (by intro i e; cases e; have := Below.size hx1; omega)
        have HO2 := Lib.hid ho2
        have HR2 := Lib.hid hr2
        clear ho2 hr2 hg2 hp0
        go_wp2
        go_roundw
        case rel => exact ⟨k + 1, n' + 1, D2, by omega, by go_num, HO2.out, by omega, by rw [← leftF_succ hlt2]; exact HR2.out, hE2⟩
        case measure => simp [intOf]; omega
      · obtain rfl : k = left.length := by omega
        have hW2 := game_win cv r (.slice la left.length lc) dv iv next round done over em b w1.heap.size n' D' (leftF left left.length) wr (H.out.ext hx) HO.out HRd.out (fun x c e => by
          unfold leftF at e; split at e
          · exact HLI.out c (List.mem_of_getElem? e)
          · cases e) (fun x c e => by
          unfold leftF at e; split at e
          · exact ⟨by omega, by omega⟩
          · cases e) (by omega)
        go_wp2_with fail
        refine hW2.mono ?_
        rintro e w3 ⟨rfl, wv, W, m, q1, q2, q3, q4, q5, q6⟩
        have hq : EndP cv r (.slice la left.length lc) dv iv round done em b w w3 (some (leftF left left.length)) := ⟨wv, W, m, q1, own_mono q2 (Below.size hx), q3, q4, q5, (hx.chg _).trans q6⟩
        have HQ := Lib.hid hq
        clear q1 q2 q3 q4 q5 q6 hq hW2
        go_wp2
        refine bodyPost_end (results_none rfl _ _ _) rfl ?_
        refine ⟨rfl, ?_⟩
        try rw [e4]
        exact HQ.out
end Go.Proofs.Ytpifdeglhalefaa
