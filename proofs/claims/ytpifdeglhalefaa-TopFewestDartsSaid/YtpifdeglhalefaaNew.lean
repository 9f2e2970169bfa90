/-
  Package leg: newGame.
-/
import Derived.Test.YtpifdeglhalefaaGms
namespace Go.Proofs.Ytpifdeglhalefaa
open Go.RowKit Go.BigFrame
attribute [local go_sem] Later.cell Later.frozen Lat.cell Lat.frozen run_makeMap_plain
theorem newGame_bad (r : Rul) (a : Option Addr) (c : Nat) (v : Int) (w : World) (ha : CntsAt w a r.counts) (hl : r.counts.length ≤ 9223372036854775807) (h : (newE r v == 0) = false) :
    Calls Try.prog 37 #[.agg #[.slice a r.counts.length c, .int .i64 r.first, .int .i64 r.rounds, .bool r.equal], .int .i64 v] w fun e w' => e = .returned (.tuple #[.pointer none, .int .i64 (newE r v)]) ∧ Ext w w' := by
  have HN := Lib.hid h
  clear h
  have hC := leg_Check r a c (w.alloc (.cells #[.slice a r.counts.length c, .int .i64 r.first, .int .i64 r.rounds, .bool r.equal] 68)) (ha.ext ((Ext.refl w).alloc _)) hl
  have HC := Lib.hid hC
  clear hC ha
  go_enter Try.func37, Try.ntmps37
  go_wp2_with fail
  refine HC.out.mono ?_
  rintro e w1 ⟨rfl, hx1⟩
  cases ho : r.ok
  · have e1 : r.err = 2 := by simp [Rul.err, ho]
    rw [e1]
    go_wp2
    go_ret2
    exact ⟨ret_two rfl (by rw [show newE r v = 2 by simp [newE, ho]]; rfl), ((Ext.refl w).alloc _).trans hx1⟩
  · have e1 : r.err = 0 := by simp [Rul.err, ho]
    rw [e1]
    have hv : 2000 < v := by
      have := HN.out
      unfold newE at this
      rw [ho] at this
      by_cases h : 2000 < v
      · exact h
      · rw [if_neg h] at this; simp at this
    go_wp2
    go_ret2
    exact ⟨ret_two rfl (by rw [show newE r v = 5 by simp [newE, ho, hv]]; rfl), ((Ext.refl w).alloc _).trans hx1⟩
/-- While a player is put into a leg. -/
structure NewG (b : Nat) (cs : Value → Value → Array Value) (lv iv : Value) (xs : List Int) (ys : List Bool) (x : Int) (y : Bool) (L : Nat → Bool) (u : Nat → Value) (w : World) : Prop where
  blk : Blk w b (cs (bif L 24 then u 10 else lv) (bif L 28 then u 20 else iv))
  left : OwnI w (b + 1) (bif L 10 then u 10 else lv) (bif L 10 then xs ++ [x] else xs)
  inn : OwnB w (b + 1) (bif L 20 then u 20 else iv) (bif L 20 then ys ++ [y] else ys)
  one : L 9 = true → L 10 = false → ∃ k, u 9 = .slice (some ⟨k, 0, none⟩) 1 1 ∧ b < k ∧ w.heap[k]? = some (.cells #[.int .i64 x] 3 (0, 0))
  two : L 19 = true → L 20 = false → ∃ k, u 19 = .slice (some ⟨k, 0, none⟩) 1 1 ∧ b < k ∧ w.heap[k]? = some (.cells #[.bool y] 4 (0, 0))
def NewR (lv iv : Value) (n : Nat) (k : Nat) (v : Value) : Prop :=
  (k = 6 → v = lv) ∧ (k = 15 → v = iv) ∧ (k = 9 ∨ k = 19 → OneR v) ∧ (k = 10 ∨ k = 20 → ∃ a c, v = .slice a (n + 1) c)
theorem NewR.six {lv iv : Value} {n : Nat} : NewR lv iv n 6 lv := ⟨fun _ => rfl, fun h => absurd h (by decide), fun h => absurd h (by decide), fun h => absurd h (by decide)⟩
theorem NewR.fifteen {lv iv : Value} {n : Nat} : NewR lv iv n 15 iv := ⟨fun h => absurd h (by decide), fun _ => rfl, fun h => absurd h (by decide), fun h => absurd h (by decide)⟩
theorem NewR.one {lv iv : Value} {n j : Nat} (hj : j = 9 ∨ j = 19) {v : Value} (h : OneR v) : NewR lv iv n j v := ⟨fun h => by omega, fun h => by omega, fun _ => h, fun h => by omega⟩
theorem NewR.app {lv iv : Value} {n j : Nat} (hj : j = 10 ∨ j = 20) {a : Option Addr} {c : Nat} : NewR lv iv n j (.slice a (n + 1) c) := ⟨fun h => by omega, fun h => by omega, fun h => by omega, fun _ => ⟨a, c, rfl⟩⟩
theorem NewR.none {lv iv : Value} {n j : Nat} (hj : j = 24 ∨ j = 28) {v : Value} : NewR lv iv n j v := ⟨fun h => by omega, fun h => by omega, fun h => by omega, fun h => by omega⟩
theorem heap_new (w : World) (o : Obj) : (w.alloc o).heap[w.heap.size]? = some o := by show (w.heap.push _)[_]? = _; simp
theorem OwnB.shape {w : World} {base : Nat} {v : Value} {xs : List Bool} (h : OwnB w base v xs) : ∃ a c, v = .slice a xs.length c := by
  obtain ⟨h1, ⟨e, h2⟩ | ⟨g, cap, cur, e, _⟩⟩ := h
  · exact ⟨Option.none, 0, by rw [e, h2]⟩
  · exact ⟨_, _, e⟩
theorem own_ne {w : World} {base base' s s' n m : Nat} {e e' : TypeId} {v v' : Value} {xs ys : List Value} (h : w.ownsRow base e s v n xs) (h' : w.ownsRow base' e' s' v' m ys) (hne : e ≠ e') : ∀ k, v.ownBlock = some k → v'.ownBlock ≠ some k := by
  intro k hk hk'
  obtain ⟨_, ⟨rfl, _⟩ | ⟨g, cap, cur, rfl, _, h3, _⟩⟩ := h
  · cases hk
  obtain ⟨_, ⟨rfl, _⟩ | ⟨g', cap', cur', rfl, _, h3', _⟩⟩ := h'
  · cases hk'
  cases hk; cases hk'
  rw [h3] at h3'
  injection h3' with h3'
  injection h3' with _ e1
  exact hne e1
theorem ne_of_type {w : World} {base s n : Nat} {e e' : TypeId} {v : Value} {xs : List Value} (h : w.ownsRow base e s v n xs) {k : Nat} {cs : Array Value} {fz : Nat × Nat} (hk : w.heap[k]? = some (.cells cs e' fz)) (hne : e ≠ e') : v.ownBlock ≠ some k := by
  intro hv
  obtain ⟨_, ⟨rfl, _⟩ | ⟨g, cap, cur, rfl, _, h3, _⟩⟩ := h
  · cases hv
  cases hv
  rw [h3] at hk
  injection hk with hk
  injection hk with _ e1
  exact hne e1
theorem own_lt {w : World} {base s n : Nat} {e : TypeId} {v : Value} {xs : List Value} (h : w.ownsRow base e s v n xs) : ∀ k, v.ownBlock = some k → base ≤ k ∧ k < w.heap.size := fun k hk => World.ownsRow.lt h k hk
theorem made_ints (n : Nat) : (madeCells (Value.int .i64 0).cells (n * 1)).toList = (List.replicate n 0).map (Value.int .i64) := by
  apply List.ext_getElem
  · simp [madeCells]
  · intro i h1 h2
    simp [madeCells, Value.cells, Nat.mod_one]
/-- While a leg's other parts are laid. -/
structure NewH (b : Nat) (cs : Value → Int → Array Value) (n : Nat) (first : Int) (base : Nat) (L : Nat → Bool) (u : Nat → Value) (w : World) : Prop where
  blk : Blk w b (cs (bif L 11 then u 5 else .slice none 0 0) (bif L 15 then first else 0))
  darts : L 5 = true → OwnI w base (u 5) (List.replicate n 0)
set_option maxHeartbeats 1000000 in
theorem newGame_ok (r : Rul) (a : Option Addr) (c : Nat) (v : Int) (w : World) (ha : CntsAt w a r.counts) (h : newE r v = 0) :
    Calls Try.prog 37 #[.agg #[.slice a r.counts.length c, .int .i64 r.first, .int .i64 r.rounds, .bool r.equal], .int .i64 v] w fun e w' => ∃ b, e = .returned (.tuple #[.pointer (some ⟨b, 0, none⟩), .int .i64 0]) ∧ OnGm w' w.heap.size b (.slice a r.counts.length c) r (Gm.begin r) 0 ∧ Ext w w' := by
  have ho : r.ok = true := by
    unfold newE at h
    cases ho : r.ok
    · rw [ho] at h; simp at h
    · rfl
  have hv : ¬ 2000 < v := fun hv => by simp [newE, ho, hv] at h
  have hlen := (Rul.ok_length ho).2
  have hC := leg_Check r a c (w.alloc (.cells #[.slice a r.counts.length c, .int .i64 r.first, .int .i64 r.rounds, .bool r.equal] 68)) (ha.ext ((Ext.refl w).alloc _)) (by omega)
  rw [show r.err = 0 by simp [Rul.err, ho]] at hC
  have HC := Lib.hid hC
  have HA := Lib.hid ha
  clear hC ha h ho
  go_enter Try.func37, Try.ntmps37
  go_wp2_with fail
  refine HC.out.mono ?_
  rintro e w1 ⟨rfl, hx1⟩
  have hb1 : Blk w1 w.heap.size #[.slice a r.counts.length c, .int .i64 r.first, .int .i64 r.rounds, .bool r.equal] := (Blk.at _ (by simp)).ext hx1
  have hE1 := ((Ext.refl w).alloc (.cells #[.slice a r.counts.length c, .int .i64 r.first, .int .i64 r.rounds, .bool r.equal] 68)).trans hx1
  clear HC hx1
  have c0 := hb1.cell 0 rfl
  have c1 := hb1.cell 1 rfl
  have c2 := hb1.cell 2 rfl
  have c3 := hb1.cell 3 rfl
  have hs1 := hb1.lt
  have HB := Lib.hid hb1
  clear hb1
  go_wp2
  have hs1' : w.heap.size ≤ w1.heap.size := by omega
  generalize hR : w1.heap.size = R at *
  have hm0 : MapAt (w1.alloc (.map #[] 0)) R 0 (.map []) := MapAt.made w1 R hR.symm
  have hB0 : Blk ((w1.alloc (.map #[] 0)).alloc (.cells (gmC (.slice a r.counts.length c) r (.slice none 0 0) (.slice none 0 0) (.slice none 0 0) 0 0 false (.slice none 0 0) R 0) 117)) (R + 1) (gmC (.slice a r.counts.length c) r (.slice none 0 0) (.slice none 0 0) (.slice none 0 0) 0 0 false (.slice none 0 0) R 0) := Blk.at _ (by simp [hR])
  have hx0 := (hE1.alloc (.map #[] 0)).alloc (.cells (gmC (.slice a r.counts.length c) r (.slice none 0 0) (.slice none 0 0) (.slice none 0 0) 0 0 false (.slice none 0 0) R 0) 117)
  have HM0 := Lib.hid (hm0.ext ((Ext.refl _).alloc (.cells (gmC (.slice a r.counts.length c) r (.slice none 0 0) (.slice none 0 0) (.slice none 0 0) 0 0 false (.slice none 0 0) R 0) 117)))
  have HB0 := Lib.hid hB0
  clear hm0 hB0 hR c0 c1 c2 c3
  have HBr := Lib.hid ((HB.out.alloc (.map #[] 0)).alloc (.cells (gmC (.slice a r.counts.length c) r (.slice none 0 0) (.slice none 0 0) (.slice none 0 0) 0 0 false (.slice none 0 0) R 0) 117))
  go_loopw [23] (fun i wr => ∃ (k : Nat) (lv iv : Value), k ≤ r.counts.length ∧ i = .int .i64 k ∧ Blk wr (R + 1) (gmC (.slice a r.counts.length c) r lv (.slice none 0 0) iv 0 0 false (.slice none 0 0) R 0) ∧
    OwnI wr (R + 1 + 1) lv ((r.counts.take k).map (·.start)) ∧ OwnB wr (R + 1 + 1) iv ((r.counts.take k).map (fun c => c.gin == 0)) ∧ MapAt wr R 0 (.map []) ∧ Blk wr w.heap.size #[.slice a r.counts.length c, .int .i64 r.first, .int .i64 r.rounds, .bool r.equal] ∧ Ext w wr) (fun i _ => r.counts.length - (intOf i).toNat)
  case atStart => exact ⟨0, _, _, Nat.zero_le _, rfl, HB0.out, OwnI.nil _ _, OwnB.nil _ _, HM0.out, HBr.out, hx0⟩
  case round =>
    obtain ⟨k, lv, iv, hk, rfl, hB, hL, hI, hM, hr, hx⟩ := hrel
    obtain ⟨xs, hxs⟩ : ∃ xs, (r.counts.take k).map (·.start) = xs := ⟨_, rfl⟩
    obtain ⟨ys, hys⟩ : ∃ ys, (r.counts.take k).map (fun c => c.gin == 0) = ys := ⟨_, rfl⟩
    have hlb : xs.length = k := by rw [← hxs]; simp; omega
    have hib : ys.length = k := by rw [← hys]; simp; omega
    rw [hxs] at hL
    rw [hys] at hI
    have HXS := Lib.hid hxs
    have HYS := Lib.hid hys
    have HLB := Lib.hid hlb
    have HIB := Lib.hid hib
    clear hxs hys hlb hib
    have HB2 := Lib.hid hB
    have HL := Lib.hid hL
    have HI := Lib.hid hI
    have HM := Lib.hid hM
    have HR := Lib.hid hr
    have hbl := hB.lt
    have hrl := hr.lt
    clear hB hL hI hM HB HM0 HB0 HBr hr hx0 hE1
    by_cases hlt : k < r.counts.length
    · obtain ⟨b', off', rfl, p0, p1, p2⟩ := HA.out k hlt
      replace p0 := hx.cell p0
      replace p1 := hx.cell p1
      replace p2 := hx.cell p2
      have hbl' := lt_of_cell p0
      go_wp2
      generalize hW : World.alloc wr _ = W
      have hEW : Ext wr W := by rw [← hW]; exact (Ext.refl wr).alloc _
      have q0 : W.cell? ⟨wr.heap.size, 0, none⟩ = some (.int .i64 r.counts[k].start) := by rw [← hW]; simp [go_sem]
      have q1 : W.cell? ⟨wr.heap.size, 1, none⟩ = some (.int .i64 r.counts[k].gin) := by rw [← hW]; simp [go_sem]
      clear hW p0 p1 p2 hbl'
      have HlN := Lib.hid (own_lt HL.out)
      have HiN := Lib.hid (own_lt HI.out)
      have HB3 := Lib.hid (HB2.out.ext hEW)
      have HL3 := Lib.hid (HL.out.ext hEW)
      have HI3 := Lib.hid (HI.out.ext hEW)
      have HM3 := Lib.hid (HM.out.ext hEW)
      have HR3 := Lib.hid (HR.out.ext hEW)
      have hx3 := hx.trans hEW
      have hsz := lt_of_cell q0
      have hblW := HB3.out.lt
      generalize hN : wr.heap.size = N at *
      have hN' := Lib.hid hN
      clear HB2 HL HI HM HR hN hx
      have hX1 : (r.counts.take (k + 1)).map (·.start) = xs ++ [r.counts[k].start] := by rw [List.take_succ_eq_append_getElem hlt, List.map_append, HXS.out]; rfl
      have hY1 : (r.counts.take (k + 1)).map (fun c => c.gin == 0) = ys ++ [r.counts[k].gin == 0] := by rw [List.take_succ_eq_append_getElem hlt, List.map_append, HYS.out]; rfl
      have HX1 := Lib.hid hX1
      have HY1 := Lib.hid hY1
      clear hX1 hY1
      generalize r.counts[k].start = x at *
      generalize r.counts[k].gin = y at *
      refine wp_region_lat (by kernel_rfl) (fun b' _ => R + 1 ≤ b' ∧ b' < N) (fun k => k == 6 || k == 9 || k == 10 || k == 15 || k == 19 || k == 20 || k == 24 || k == 28) (NewR lv iv k)
        (NewG (R + 1) (fun p q => gmC (.slice (some ⟨b', off', none⟩) r.counts.length c) r p (.slice none 0 0) q 0 0 false (.slice none 0 0) R 0) lv iv xs ys x (y == 0))
        (by kernel_rfl) (fun k hk => by simp only [Bool.or_eq_true, beq_iff_eq] at hk; show k < 29; omega)
        (fun L L' u w hh hg => ⟨by rw [hh 24 rfl, hh 28 rfl]; exact hg.blk, by rw [hh 10 rfl]; exact hg.left, by rw [hh 20 rfl]; exact hg.inn, by rw [hh 9 rfl, hh 10 rfl]; exact hg.one, by rw [hh 19 rfl, hh 20 rfl]; exact hg.two⟩)
        (fun L u w w' hg hx => ⟨hg.blk.ext hx, hg.left.ext hx, hg.inn.ext hx, fun h1 h2 => let ⟨k, a1, a2, a3⟩ := hg.one h1 h2; ⟨k, a1, a2, hx.heap a3⟩, fun h1 h2 => let ⟨k, a1, a2, a3⟩ := hg.two h1 h2; ⟨k, a1, a2, hx.heap a3⟩⟩)
        (fun j => if j = 6 then lv else if j = 15 then iv else if j = 9 ∨ j = 19 then .slice (some ⟨0, 0, none⟩) 1 1 else .slice none (k + 1) 0)
        (fun j hj => ⟨fun h => by subst h; rfl, fun h => by subst h; rfl, fun h => by rcases h with rfl | rfl <;> exact ⟨0, rfl⟩, fun h => by rcases h with rfl | rfl <;> exact ⟨none, 0, rfl⟩⟩)
        ⟨HB3.out.drew, HL3.out.ext ((Ext.refl _).drew), HI3.out.ext ((Ext.refl _).drew), fun h => (by cases h), fun h => (by cases h)⟩ ?_
      intro T hT hne u hu
      have u6 := (hu 6 rfl).1 rfl
      have u15 := (hu 15 rfl).2.1 rfl
      obtain ⟨k9, u9⟩ := (hu 9 rfl).2.2.1 (.inl rfl)
      obtain ⟨k19, u19⟩ := (hu 19 rfl).2.2.1 (.inr rfl)
      obtain ⟨a10, c10, u10⟩ := (hu 10 rfl).2.2.2 (.inl rfl)
      obtain ⟨a20, c20, u20⟩ := (hu 20 rfl).2.2.2 (.inr rfl)
      refine lx_next 6 (by rfl) (by decide) ?_
      dsimp only [List.take, List.drop]
      repeat (go_big_quiet_step (fail))
      refine wpQuiet_nil ?_
      refine lx_loud (by rfl) (by kernel_rfl) ?_ (fun K hK => ?_)
      · intro L w3 hL hd hcl hC hg
        have hb := hg.blk
        rw [hcl.off hL 30 24 (by kernel_rfl)] at hb
        obtain ⟨z, rfl⟩ := hC
        have hcc := hb.cell 4 (v := lv) rfl
        go_wp2
        exact ⟨NewR.six, ⟨z, rfl⟩, ⟨hg.blk, hg.left, hg.inn, hg.one, hg.two⟩⟩
      rw [u6]
      go_simp
      with_reducible refine hK _ ?_
      clear hK K
      refine lx_next 2 (by rfl) (by decide) ?_
      dsimp only [List.take, List.drop]
      repeat (go_big_quiet_step (fail))
      refine wpQuiet_nil ?_
      refine lx_loud (by rfl) (by kernel_rfl) ?_ (fun K hK => ?_)
      · intro L w3 hL hd hcl hC hg
        obtain ⟨z, rfl⟩ := hC
        have hx9 : Ext z.world (z.world.alloc (.cells #[.int .i64 x] 3)) := (Ext.refl _).alloc _
        have hzs := hg.blk.lt
        go_wp2
        exact ⟨NewR.one (.inl rfl) ⟨_, rfl⟩, ⟨z.ext hx9, rfl⟩, ⟨hg.blk.ext hx9, hg.left.ext hx9, hg.inn.ext hx9, fun _ _ => ⟨z.world.heap.size, rfl, hzs, heap_new _ _⟩, fun h1 h2 => let ⟨k, a1, a2, a3⟩ := hg.two h1 h2; ⟨k, a1, a2, hx9.heap a3⟩⟩⟩
      rw [u9]
      go_simp
      with_reducible refine hK _ ?_
      clear hK K
      refine lx_loud (by rfl) (by kernel_rfl) ?_ (fun K hK => ?_)
      · intro L w3 hL hd hcl hC hg
        obtain ⟨z, rfl⟩ := hC
        have hl : OwnI z.world (R + 1 + 1) lv xs := by have := hg.left; rw [hL] at this; exact this
        obtain ⟨k', hk', hbk, hc⟩ := hg.one (hd 9 (by kernel_rfl)) hL
        obtain rfl : k' = k9 := by rw [u9] at hk'; cases hk'; rfl
        have h24 := hcl.off hL 30 24 (by kernel_rfl)
        have hne := own_ne hl hg.inn (by decide)
        have hzs := hg.blk.lt
        have hlt9 : z.world.heap.size ≠ 0 := by omega
        refine wp_append_i rfl _ _ rfl (R + 1 + 1) lv _ rfl hl ⟨k', 0, none⟩ 1 x rfl (by simp [World.cell?, hc]) (by rw [HLB.out]; omega) (by omega) ?_
        intro v' w4 hO4 hg4
        obtain ⟨av, ac, hv', -⟩ := hO4.cells
        rw [show (xs ++ [x]).length = k + 1 by rw [List.length_append, HLB.out]; rfl] at hv'
        subst hv'
        have hlv := own_lt hl
        have hC4 := grown_chg hg4
        have HO4 := Lib.hid hO4
        clear hO4
        go_wp2
        refine ⟨NewR.app (.inl rfl), ⟨z.chgd hC4 (fun i e => ?_), rfl⟩, ?_⟩
        · have := HlN.out i e; exact .inr fun _ => by omega
        · have hb4 := hg.blk.chg hC4 (fun e => by have := (hlv _ e).1; omega)
          refine ⟨?_, HO4.out, hg.inn.chg hC4 (fun k e e' => hne k e' e), fun h1 h2 => by simp [upd] at h2, fun h1 h2 => ?_⟩
          · simp only [upd, updv]
            rw [h24] at hb4 ⊢
            exact hb4
          · obtain ⟨k2, a1, a2, a3⟩ := hg.two h1 h2
            exact ⟨k2, a1, a2, hC4.heap a3 (ne_of_type hl a3 (by decide))⟩
      rw [u10]
      go_simp
      with_reducible refine hK _ ?_
      clear hK K
      refine lx_next 4 (by rfl) (by decide) ?_
      dsimp only [List.take, List.drop]
      repeat (go_big_quiet_step (fail))
      refine wpQuiet_nil ?_
      refine lx_loud (by rfl) (by kernel_rfl) ?_ (fun K hK => ?_)
      · intro L w3 hL hd hcl hC hg
        have hb := hg.blk
        rw [hcl.off hL 30 28 (by kernel_rfl)] at hb
        obtain ⟨z, rfl⟩ := hC
        have hcc := hb.cell 6 (v := iv) rfl
        go_wp2
        exact ⟨NewR.fifteen, ⟨z, rfl⟩, ⟨hg.blk, hg.left, hg.inn, hg.one, hg.two⟩⟩
      rw [u15]
      go_simp
      with_reducible refine hK _ ?_
      clear hK K
      refine lx_next 3 (by rfl) (by decide) ?_
      dsimp only [List.take, List.drop]
      repeat (go_big_quiet_step (fail))
      refine wpQuiet_nil ?_
      refine lx_loud (by rfl) (by kernel_rfl) ?_ (fun K hK => ?_)
      · intro L w3 hL hd hcl hC hg
        obtain ⟨z, rfl⟩ := hC
        have hx9 : Ext z.world (z.world.alloc (.cells #[.bool (y == 0)] 4)) := (Ext.refl _).alloc _
        have hzs := hg.blk.lt
        go_wp2
        exact ⟨NewR.one (.inr rfl) ⟨_, rfl⟩, ⟨z.ext hx9, rfl⟩, ⟨hg.blk.ext hx9, hg.left.ext hx9, hg.inn.ext hx9, fun h1 h2 => let ⟨k, a1, a2, a3⟩ := hg.one h1 h2; ⟨k, a1, a2, hx9.heap a3⟩, fun _ _ => ⟨z.world.heap.size, rfl, hzs, heap_new _ _⟩⟩⟩
      rw [u19]
      go_simp
      with_reducible refine hK _ ?_
      clear hK K
      refine lx_loud (by rfl) (by kernel_rfl) ?_ (fun K hK => ?_)
      · intro L w3 hL hd hcl hC hg
        obtain ⟨z, rfl⟩ := hC
        have hl : OwnB z.world (R + 1 + 1) iv ys := by have := hg.inn; rw [hL] at this; exact this
        obtain ⟨k', hk', hbk, hc⟩ := hg.two (hd 19 (by kernel_rfl)) hL
        obtain rfl : k' = k19 := by rw [u19] at hk'; cases hk'; rfl
        have h28 := hcl.off hL 30 28 (by kernel_rfl)
        have hne := own_ne hl hg.left (by decide)
        have hzs := hg.blk.lt
        refine wp_append_bo rfl _ _ rfl (R + 1 + 1) iv _ rfl hl ⟨k', 0, none⟩ 1 (y == 0) rfl (by simp [World.cell?, hc]) (by rw [HIB.out]; omega) (by omega) ?_
        intro v' w4 hO4 hg4
        obtain ⟨av, ac, hv'⟩ := OwnB.shape hO4
        rw [show (ys ++ [y == 0]).length = k + 1 by rw [List.length_append, HIB.out]; rfl] at hv'
        subst hv'
        have hlv := own_lt hl
        have hC4 := grown_chg hg4
        have HO4 := Lib.hid hO4
        clear hO4
        go_wp2
        refine ⟨NewR.app (.inr rfl), ⟨z.chgd hC4 (fun i e => ?_), rfl⟩, ?_⟩
        · have := HiN.out i e; exact .inr fun _ => by omega
        · have hb4 := hg.blk.chg hC4 (fun e => by have := (hlv _ e).1; omega)
          refine ⟨?_, hg.left.chg hC4 (fun k e e' => hne k e' e), HO4.out, fun h1 h2 => ?_, fun h1 h2 => by simp [upd] at h2⟩
          · simp only [upd, updv]
            rw [h28] at hb4 ⊢
            exact hb4
          · obtain ⟨k2, a1, a2, a3⟩ := hg.one h1 h2
            exact ⟨k2, a1, a2, hC4.heap a3 (ne_of_type hl a3 (by decide))⟩
      rw [u20]
      go_simp
      with_reducible refine hK _ ?_
      clear hK K
      refine lx_next 3 (by rfl) (by decide) ?_
      dsimp only [List.take, List.drop]
      repeat (go_big_quiet_step (fail))
      refine wpQuiet_nil ?_
      refine lx_loud (by rfl) (by kernel_rfl) ?_ (fun K hK => ?_)
      · intro L w3 hL hd hcl hC hg
        obtain ⟨z, rfl⟩ := hC
        have f4 := hg.blk.frozen 4
        have hcc := hg.blk.cell 4 rfl
        have hzs := hg.blk.lt
        have hset := Chg.setCell (S := (· = R + 1)) (Chg.refl _ z.world) (p := ⟨R + 1, 4, none⟩) (.inr rfl) (.slice a10 (k + 1) c10)
        have hlL := own_lt hg.left
        have hlI := own_lt hg.inn
        have hnb : R + 1 < N := by omega
        go_wp2
        refine ⟨NewR.none (.inl rfl), ⟨z.chgd hset (fun i e => .inr fun _ => by omega), rfl⟩, ⟨?_, hg.left.chg hset (fun i e e' => by have := (hlL i e).1; omega), hg.inn.chg hset (fun i e e' => by have := (hlI i e).1; omega), fun h1 h2 => ?_, fun h1 h2 => ?_⟩⟩
        · have := hg.blk.set 4 (.slice a10 (k + 1) c10)
          simp only [upd, updv]
          rw [u10]
          exact this
        · obtain ⟨k2, a1, a2, a3⟩ := hg.one h1 h2
          exact ⟨k2, a1, a2, hset.heap a3 (by omega)⟩
        · obtain ⟨k2, a1, a2, a3⟩ := hg.two h1 h2
          exact ⟨k2, a1, a2, hset.heap a3 (by omega)⟩
      go_simp
      with_reducible refine hK _ ?_
      clear hK K
      refine lx_next 3 (by rfl) (by decide) ?_
      dsimp only [List.take, List.drop]
      repeat (go_big_quiet_step (fail))
      refine wpQuiet_nil ?_
      refine lx_loud (by rfl) (by kernel_rfl) ?_ (fun K hK => ?_)
      · intro L w3 hL hd hcl hC hg
        obtain ⟨z, rfl⟩ := hC
        have f4 := hg.blk.frozen 6
        have hcc := hg.blk.cell 6 rfl
        have hzs := hg.blk.lt
        have hset := Chg.setCell (S := (· = R + 1)) (Chg.refl _ z.world) (p := ⟨R + 1, 6, none⟩) (.inr rfl) (.slice a20 (k + 1) c20)
        have hlL := own_lt hg.left
        have hlI := own_lt hg.inn
        have hnb : R + 1 < N := by omega
        go_wp2
        refine ⟨NewR.none (.inr rfl), ⟨z.chgd hset (fun i e => .inr fun _ => by omega), rfl⟩, ⟨?_, hg.left.chg hset (fun i e e' => by have := (hlL i e).1; omega), hg.inn.chg hset (fun i e e' => by have := (hlI i e).1; omega), fun h1 h2 => ?_, fun h1 h2 => ?_⟩⟩
        · have := hg.blk.set 6 (.slice a20 (k + 1) c20)
          simp only [upd, updv]
          rw [u20]
          exact this
        · obtain ⟨k2, a1, a2, a3⟩ := hg.one h1 h2
          exact ⟨k2, a1, a2, hset.heap a3 (by omega)⟩
        · obtain ⟨k2, a1, a2, a3⟩ := hg.two h1 h2
          exact ⟨k2, a1, a2, hset.heap a3 (by omega)⟩
      go_simp
      with_reducible refine hK _ ?_
      clear hK K
      refine lx_nil ?_
      intro z hG
      have hb5 := hG.blk
      have hl5 := hG.left
      have hi5 := hG.inn
      simp only [cond_true] at hb5 hl5 hi5
      rw [u10] at hb5 hl5
      rw [u20] at hb5 hi5
      have hx5 := Chg.to_ext hx3 z.chg (by rintro i ⟨_, h1, h2⟩; omega)
      have hm5 := HM3.out.chg z.chg (by rintro ⟨_, h1, h2⟩; omega)
      have hr5 := HR3.out.chg z.chg (by rintro ⟨_, h1, h2⟩; omega)
      rw [← HX1.out] at hl5
      rw [← HY1.out] at hi5
      generalize z.world = W5 at *
      have HB5 := Lib.hid hb5
      have HL5 := Lib.hid hl5
      have HI5 := Lib.hid hi5
      have HM5 := Lib.hid hm5
      have HR5 := Lib.hid hr5
      clear hG hb5 hl5 hi5 hm5 hr5 u6 u9 u10 u15 u19 u20 hu hT hne q0 q1
      go_wp2
      go_roundw
      case rel => exact ⟨k + 1, _, _, by omega, by go_num, HB5.out, HL5.out, HI5.out, HM5.out, HR5.out, hx5⟩
      case measure => simp [intOf]; omega
    · have hxs : xs = (Gm.begin r).left := by rw [← HXS.out, List.take_of_length_le (by omega)]; rfl
      have hys : ys = (Gm.begin r).inn := by rw [← HYS.out, List.take_of_length_le (by omega)]; rfl
      have HX := Lib.hid hxs
      have HY := Lib.hid hys
      clear hxs hys HXS HYS
      have HB3 := HB2
      have c0 := HR.out.cell 0 rfl
      have c1 := HR.out.cell 1 (v := .int .i64 r.first) rfl
      go_wp2
      refine wp_region_lat (by kernel_rfl) (fun b' o => b' = R + 1 ∧ (o = 5 ∨ o = 7)) (fun k => k == 5 || k == 11 || k == 15) (fun j v => j = 5 → ∃ m, v = .slice (some ⟨m, 0, none⟩) r.counts.length r.counts.length)
        (NewH (R + 1) (fun p q => gmC (.slice a r.counts.length c) r lv p iv q 0 false (.slice none 0 0) R 0) r.counts.length r.first wr.heap.size)
        (by kernel_rfl) (fun k hk => by simp only [Bool.or_eq_true, beq_iff_eq] at hk; show k < 16; omega)
        (fun L L' u w hh hg => ⟨by rw [hh 11 rfl, hh 15 rfl]; exact hg.blk, by rw [hh 5 rfl]; exact hg.darts⟩)
        (fun L u w w' hg hx => ⟨hg.blk.ext hx, fun h => (hg.darts h).ext hx⟩)
        (fun _ => .slice (some ⟨0, 0, none⟩) r.counts.length r.counts.length) (fun j hj _ => ⟨0, rfl⟩)
        ⟨HB3.out.drew, fun h => (by cases h)⟩ ?_
      intro T hT hne u hu
      obtain ⟨m5, u5⟩ := hu 5 rfl rfl
      refine lx_next 5 (by rfl) (by decide) ?_
      dsimp only [List.take, List.drop]
      repeat (go_big_quiet_step (fail))
      refine wpQuiet_nil ?_
      refine lx_loud (by rfl) (by kernel_rfl) ?_ (fun K hK => ?_)
      · intro L w3 hL hd hcl hC hg
        obtain ⟨z, rfl⟩ := hC
        have h11 := hcl.off hL 20 11 (by kernel_rfl)
        obtain ⟨i0, hi, hz0, hz1, hz2⟩ := info_parts info_int
        refine wpList_make_full _ rfl _ _ 25 rfl wr.heap.size 3 i0 (.int .i64 0) 1 (by kernel_rfl) hi hz0 hz1 .i64 .i64 _ _ r.counts.length rfl rfl rfl rfl (by rw [hz2]; omega) (by unfold maxLen; omega) z.size ?_
        intro w4 hO4 hg4
        have hC4 := grown_chg hg4
        have hO5 : OwnI w4 wr.heap.size (.slice (some ⟨z.world.heap.size, 0, none⟩) r.counts.length r.counts.length) (List.replicate r.counts.length 0) := by
          unfold OwnI; rw [← made_ints]; simpa using hO4
        have HO4 := Lib.hid hO5
        clear hO4 hO5 hi hz0 hz1 hz2
        go_wp2
        refine ⟨⟨_, rfl⟩, ⟨z.chgd hC4 (fun i e => by cases e), rfl⟩, ⟨?_, fun _ => HO4.out⟩⟩
        have := hg.blk.chg hC4 (fun e => by cases e)
        rw [h11] at this
        simp only [upd, updv]
        rw [h11]
        exact this
      rw [u5]
      go_simp
      with_reducible refine hK _ ?_
      clear hK K
      refine lx_next 5 (by rfl) (by decide) ?_
      dsimp only [List.take, List.drop]
      repeat (go_big_quiet_step (fail))
      refine wpQuiet_nil ?_
      refine lx_loud (by rfl) (by kernel_rfl) ?_ (fun K hK => ?_)
      · intro L w3 hL hd hcl hC hg
        obtain ⟨z, rfl⟩ := hC
        have f4 := hg.blk.frozen 5
        have hcc := hg.blk.cell 5 rfl
        have hzs := hg.blk.lt
        have hset := Chg.setCell (S := (· = R + 1)) (Chg.refl _ z.world) (p := ⟨R + 1, 5, none⟩) (.inr rfl) (.slice (some ⟨m5, 0, none⟩) r.counts.length r.counts.length)
        go_wp2
        refine ⟨⟨z.setCell (.inr ⟨rfl, .inl rfl⟩) _, rfl⟩, ⟨?_, fun h => (hg.darts h).chg hset (fun i e e' => ?_)⟩⟩
        · have := hg.blk.set 5 (.slice (some ⟨m5, 0, none⟩) r.counts.length r.counts.length)
          simp only [upd, updv]
          rw [u5]
          exact this
        · have := (own_lt (hg.darts h) i e).1; omega
      go_simp
      with_reducible refine hK _ ?_
      clear hK K
      refine lx_next 3 (by rfl) (by decide) ?_
      dsimp only [List.take, List.drop]
      repeat (go_big_quiet_step (fail))
      refine wpQuiet_nil ?_
      refine lx_loud (by rfl) (by kernel_rfl) ?_ (fun K hK => ?_)
      · intro L w3 hL hd hcl hC hg
        obtain ⟨z, rfl⟩ := hC
        have f4 := hg.blk.frozen 7
        have hcc := hg.blk.cell 7 rfl
        have hzs := hg.blk.lt
        have hset := Chg.setCell (S := (· = R + 1)) (Chg.refl _ z.world) (p := ⟨R + 1, 7, none⟩) (.inr rfl) (.int .i64 r.first)
        go_wp2
        refine ⟨⟨z.setCell (.inr ⟨rfl, .inr rfl⟩) _, rfl⟩, ⟨hg.blk.set 7 (.int .i64 r.first), fun h => (hg.darts h).chg hset (fun i e e' => ?_)⟩⟩
        have := (own_lt (hg.darts h) i e).1; omega
      go_simp
      with_reducible refine hK _ ?_
      clear hK K
      refine lx_nil ?_
      intro z hG
      have hb5 := hG.blk
      have hd5 := hG.darts rfl
      simp only [cond_true] at hb5
      rw [u5] at hb5 hd5
      have hchg := z.chg.mono (T := (· = R + 1)) (by rintro i _ ⟨_, h1, h2⟩; exact h1)
      have hx5 := Chg.to_ext hx hchg (by rintro i rfl; omega)
      have hm5 := HM.out.chg hchg (by omega)
      have hl5 := HL.out.chg hchg (fun i e e' => by have := (own_lt HL.out i e).1; omega)
      have hi5 := HI.out.chg hchg (fun i e e' => by have := (own_lt HI.out i e).1; omega)
      have hpt : ∀ k, lv.ownBlock = some k → (Value.slice (some ⟨m5, 0, none⟩) r.counts.length r.counts.length).ownBlock ≠ some k := fun i e e' => by
        have := (own_lt HL.out i e).2
        have := (own_lt hd5 i e').1
        omega
      rw [HX.out] at hl5
      rw [HY.out] at hi5
      have hfin : OnGm z.world w.heap.size (R + 1) (.slice a r.counts.length c) r (Gm.begin r) 0 :=
        ⟨lv, _, iv, _, R, _, hb5, by omega, hl5, own_mono hd5 (by omega), hi5, OwnI.nil _ _, hpt, hm5, by omega, Reads.empty, fun _ => rfl⟩
      have HF := Lib.hid hfin
      generalize z.world = W5 at *
      clear hG hb5 hd5 hchg hm5 hl5 hi5 hpt hfin u5 hu hT hne HR HL HI HM HB2 HB3
      go_wp2
      go_ret2
      exact ⟨R + 1, rfl, HF.out, hx5⟩
end Go.Proofs.Ytpifdeglhalefaa
