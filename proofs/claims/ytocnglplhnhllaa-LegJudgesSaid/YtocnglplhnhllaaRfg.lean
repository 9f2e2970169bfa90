/-
  The reference of chapter 3: Begin. Printed by wip/beg.py.
-/
import Derived.Test.YtocnglplhnhllaaRfs
import Derived.Test.YtocnglplhnhllaaNew
import Derived.Maps.AppendAt
namespace Go.Proofs.Ytocnglplhnhllaa
open Go.RowKit Go.BigFrame
attribute [local go_sem] Later.cell Later.frozen Lat.cell Lat.frozen
theorem Blk.setCells {b : Nat} : ∀ (vs : List Value) (o : Nat) (w : World) (cs : Array Value), Blk w b cs → o + vs.length = cs.size → Blk (w.setCells b o vs) b (cs.toList.take o ++ vs).toArray
  | [], o, w, cs, h, hl => by
    have e : (cs.toList.take o ++ []).toArray = cs := by
      rw [List.append_nil, List.take_of_length_le (by simp at hl ⊢; omega)]
    rw [e]; exact h
  | v :: r, o, w, cs, h, hl => by
    have h1 := Blk.setCells r (o + 1) _ _ (h.set o v) (by simp at hl ⊢; omega)
    have e : ((cs.setIfInBounds o v).toList.take (o + 1) ++ r) = cs.toList.take o ++ v :: r := by
      simp at hl
      have : o < cs.toList.length := by simp; omega
      rw [Array.toList_setIfInBounds, List.take_succ_eq_append_getElem (by simp; omega), List.take_set_of_le (by omega), List.getElem_set_self, List.append_assoc]
      rfl
    rw [e] at h1
    exact h1
theorem chg_setCells {S : Nat → Prop} {b : Nat} (hb : S b) {a : World} : ∀ (vs : List Value) (o : Nat) (w : World), Chg S a w → Chg S a (w.setCells b o vs)
  | [], _, _, h => h
  | v :: r, o, _, h => chg_setCells hb r (o + 1) _ (h.setCell (.inr hb) v)
theorem wp_load_leg {ops : Array Oper} {rest : List Oper} {o : Oper} {a : Act} {w : World} {Q : Exit → Act → World → Prop} (hgd : o.guard = none) (x : Operand) (ho : o.op = .load 112 x) (b : Nat) (hx : a.eval x = .pointer (some ⟨b, 0, none⟩)) (cs : Array Value) (h : Blk w b cs) (hs : cs.size = 17)
    (k : wpList Try.prog ops Q rest (a.put o.dst (.agg cs)) w) : wpList Try.prog ops Q (o :: rest) a w := by
  have hr := leg_row
  cases hu : Try.prog.underlying 112 with
  | none => rw [hu] at hr; cases hr
  | some d =>
    rw [hu] at hr
    exact wpList_load_mid hgd 112 x ho b 0 hx cs.toList d h.range hu (by simpa using hr) (by rw [leg_size]; simp [hs]) (by simpa using k)
theorem wp_store_leg {ops : Array Oper} {rest : List Oper} {o : Oper} {a : Act} {w : World} {Q : Exit → Act → World → Prop} (hgd : o.guard = none) (x y : Operand) (ho : o.op = .store 112 x y) (b : Nat) (hx : a.eval x = .pointer (some ⟨b, 0, none⟩)) (cs : Array Value) (hy : a.eval y = .agg cs) (old : Array Value) (h : Blk w b old) (hol : old.size = 17) (hs : cs.size = 17) (h1 : cs.all (·.oneCell') = true)
    (k : ∀ w', Blk w' b cs → Chg (· = b) w w' → wpList Try.prog ops Q rest (a.put o.dst undef) w') : wpList Try.prog ops Q (o :: rest) a w := by
  refine wpList_store_mid hgd 112 x y ho b 0 cs hx hy (fun j hj => ⟨?_, ?_⟩) (by rw [leg_size, hs]) h1 (k _ ?_ ?_)
  · rw [Nat.zero_add, h.cell j (Array.getElem?_eq_getElem (by omega))]; rfl
  · rw [Nat.zero_add]; exact h.frozen j
  · have := Blk.setCells cs.toList 0 w old h (by simp [hs, hol])
    simpa using this
  · exact chg_setCells (S := (· = b)) rfl _ _ _ (Chg.refl _ w)
theorem wp_append_i_at {w : World} {ops : Array Oper} {rest : List Oper} {o : Oper} {a : Act} {Q : Exit → Act → World → Prop} (hgd : o.guard = none) (s x : Operand)
    (ho : o.op = .call { callee := .builtin .append, args := #[s, x], argTypes := #[48, 48] }) (base : Nat) (v : Value) (xs : List Int) (hs : a.eval s = v) (hown : OwnI w base v xs) (ad : Addr) (c : Nat) (n : Int)
    (hx : a.eval x = .slice (some ad) 1 c) (hn : w.cell? ad = some (.int .i64 n)) (hlen : xs.length ≤ 1000000000000) (hbase : base ≤ w.heap.size)
    (h : ∀ v' w', OwnI w' base v' (xs ++ [n]) → w.grownBy w' v.ownBlock → (v'.ownBlock = v.ownBlock ∨ v'.ownBlock = some w.heap.size) → wpList Try.prog ops Q rest (a.put o.dst v') w') : wpList Try.prog ops Q (o :: rest) a w := by
  obtain ⟨i0, hi, hz0, hz1, hz2⟩ := info_parts info_int
  refine wpList_append_own_at w hgd s x 48 ho base 3 i0 (.int .i64 0) 1 8 (by kernel_rfl) hi hz0 hz1 hz2 rfl (by decide) v xs.length _ hs hown ad 1 c [.int .i64 n] hx rfl ?_ ?_ (by unfold maxLen; omega) (by omega) hbase ?_
  · intro j u hj
    match j, hj with
    | 0, hj => simp at hj; subst hj; simpa [Addr.add] using hn
  · intro u hu; simp at hu; subst hu; rfl
  · intro v' w' ho' hg _ hat
    refine h v' w' ?_ hg hat
    unfold OwnI
    simpa using ho'
/-- While a player is put into the reference's leg. -/
structure BegG (b : Nat) (cs : Value → Value → Value → Array Value) (lv dv iv : Value) (xs ds : List Int) (ys : List Bool) (x : Int) (y : Bool) (L : Nat → Bool) (u : Nat → Value) (w : World) : Prop where
  blk : Blk w b (cs (bif L 30 then u 10 else lv) (bif L 33 then u 15 else dv) (bif L 36 then u 27 else iv))
  left : OwnI w (b + 1) (bif L 10 then u 10 else lv) (bif L 10 then xs ++ [x] else xs)
  darts : OwnI w (b + 1) (bif L 15 then u 15 else dv) (bif L 15 then ds ++ [0] else ds)
  inn : OwnB w (b + 1) (bif L 27 then u 27 else iv) (bif L 27 then ys ++ [y] else ys)
  one : L 9 = true → L 10 = false → ∃ k, u 9 = .slice (some ⟨k, 0, none⟩) 1 1 ∧ b < k ∧ w.heap[k]? = some (.cells #[.int .i64 x] 3 (0, 0)) ∧ (bif L 15 then u 15 else dv).ownBlock ≠ some k
  zer : L 14 = true → L 15 = false → ∃ k, u 14 = .slice (some ⟨k, 0, none⟩) 1 1 ∧ b < k ∧ w.heap[k]? = some (.cells #[.int .i64 0] 3 (0, 0)) ∧ (bif L 10 then u 10 else lv).ownBlock ≠ some k
  two : L 26 = true → L 27 = false → ∃ k, u 26 = .slice (some ⟨k, 0, none⟩) 1 1 ∧ b < k ∧ w.heap[k]? = some (.cells #[.bool y] 4 (0, 0))
  parts : ∀ k, (bif L 10 then u 10 else lv).ownBlock = some k → (bif L 15 then u 15 else dv).ownBlock ≠ some k
def BegR (lv dv iv : Value) (n : Nat) (k : Nat) (v : Value) : Prop :=
  (k = 2 → v = lv) ∧ (k = 13 → v = dv) ∧ (k = 18 → v = iv) ∧ (k = 9 ∨ k = 14 ∨ k = 26 → OneR v) ∧ (k = 10 ∨ k = 15 ∨ k = 27 → ∃ a c, v = .slice a (n + 1) c)
theorem BegR.l {lv dv iv : Value} {n : Nat} : BegR lv dv iv n 2 lv := ⟨fun _ => rfl, fun h => absurd h (by decide), fun h => absurd h (by decide), fun h => absurd h (by decide), fun h => absurd h (by decide)⟩
theorem BegR.d {lv dv iv : Value} {n : Nat} : BegR lv dv iv n 13 dv := ⟨fun h => absurd h (by decide), fun _ => rfl, fun h => absurd h (by decide), fun h => absurd h (by decide), fun h => absurd h (by decide)⟩
theorem BegR.i {lv dv iv : Value} {n : Nat} : BegR lv dv iv n 18 iv := ⟨fun h => absurd h (by decide), fun h => absurd h (by decide), fun _ => rfl, fun h => absurd h (by decide), fun h => absurd h (by decide)⟩
theorem BegR.one {lv dv iv : Value} {n j : Nat} (hj : j = 9 ∨ j = 14 ∨ j = 26) {v : Value} (h : OneR v) : BegR lv dv iv n j v := ⟨fun h => by omega, fun h => by omega, fun h => by omega, fun _ => h, fun h => by omega⟩
theorem BegR.app {lv dv iv : Value} {n j : Nat} (hj : j = 10 ∨ j = 15 ∨ j = 27) {a : Option Addr} {c : Nat} : BegR lv dv iv n j (.slice a (n + 1) c) := ⟨fun h => by omega, fun h => by omega, fun h => by omega, fun h => by omega, fun _ => ⟨a, c, rfl⟩⟩
theorem BegR.none {lv dv iv : Value} {n j : Nat} (hj : j = 30 ∨ j = 33 ∨ j = 36) {v : Value} : BegR lv dv iv n j v := ⟨fun h => by omega, fun h => by omega, fun h => by omega, fun h => by omega, fun h => by omega⟩
set_option maxHeartbeats 4000000 in
theorem ref_Begin (r : Rul) (a : Option Addr) (c : Nat) (w : World) (ha : CntsAt w a r.counts) (hlen : r.counts.length ≤ 8) :
    Calls Try.prog 50 #[.agg #[.slice a r.counts.length c, .int .i64 r.first, .int .i64 r.rounds, .bool r.equal]] w fun e w' => ∃ lv dv iv, e = .returned (.agg (legC lv dv iv r.first 0 false (.slice none 0 0) (.slice none 0 0) 0 0 0 0 0 0 0 0 0)) ∧ OwnI w' w.heap.size lv (Gm.begin r).left ∧ OwnI w' w.heap.size dv (Gm.begin r).darts ∧ OwnB w' w.heap.size iv (Gm.begin r).inn ∧ Ext w w' := by
  have HA := Lib.hid ha
  clear ha
  go_enter Try.func50, Try.ntmps50
  go_wp2
  generalize hW : World.alloc _ _ = W
  have hE : Ext w W := by rw [← hW]; exact (((Ext.refl w).alloc _).alloc _).alloc _
  have hr0 : Blk W w.heap.size #[.slice a r.counts.length c, .int .i64 r.first, .int .i64 r.rounds, .bool r.equal] := by rw [← hW]; exact ((Blk.new w _ _).alloc _).alloc _
  have hz0 : Blk W (w.heap.size + 1) legZ := by rw [← hW]; exact (Blk.at _ (by simp)).alloc _
  have hb0 : Blk W (w.heap.size + 1 + 1) (legC (.slice none 0 0) (.slice none 0 0) (.slice none 0 0) r.first 0 false (.slice none 0 0) (.slice none 0 0) 0 0 0 0 0 0 0 0 0) := by rw [← hW]; exact Blk.at _ (by simp)
  have HR0 := Lib.hid hr0
  have HZ0 := Lib.hid hz0
  have HB0 := Lib.hid hb0
  clear hW hr0 hz0 hb0
  generalize hR : w.heap.size + 1 = R at *
  go_loopw [4] (fun i wr => ∃ (k : Nat) (lv dv iv : Value), k ≤ r.counts.length ∧ i = .int .i64 k ∧ Blk wr (R + 1) (legC lv dv iv r.first 0 false (.slice none 0 0) (.slice none 0 0) 0 0 0 0 0 0 0 0 0) ∧
    OwnI wr (R + 1 + 1) lv ((r.counts.take k).map (·.start)) ∧ OwnI wr (R + 1 + 1) dv (List.replicate k 0) ∧ OwnB wr (R + 1 + 1) iv ((r.counts.take k).map (fun c => c.gin == 0)) ∧ (∀ k, lv.ownBlock = some k → dv.ownBlock ≠ some k) ∧ Blk wr R legZ ∧ Blk wr w.heap.size #[.slice a r.counts.length c, .int .i64 r.first, .int .i64 r.rounds, .bool r.equal] ∧ Ext w wr) (fun i _ => r.counts.length - (intOf i).toNat)
  case atStart => exact ⟨0, _, _, _, Nat.zero_le _, rfl, HB0.out, OwnI.nil _ _, OwnI.nil _ _, OwnB.nil _ _, fun k h => (by cases h), HZ0.out, HR0.out, hE⟩
  case round =>
    obtain ⟨k, lv, dv, iv, hk, rfl, hB, hL, hD, hI, hP, hZ, hr, hx⟩ := hrel
    obtain ⟨xs, hxs⟩ : ∃ xs, (r.counts.take k).map (·.start) = xs := ⟨_, rfl⟩
    obtain ⟨ys, hys⟩ : ∃ ys, (r.counts.take k).map (fun c => c.gin == 0) = ys := ⟨_, rfl⟩
    obtain ⟨ds, hds⟩ : ∃ ds : List Int, List.replicate k 0 = ds := ⟨_, rfl⟩
    have hlb : xs.length = k := by rw [← hxs]; simp; omega
    have hib : ys.length = k := by rw [← hys]; simp; omega
    have hdb : ds.length = k := by rw [← hds]; simp
    rw [hxs] at hL
    rw [hys] at hI
    rw [hds] at hD
    have HXS := Lib.hid hxs
    have HYS := Lib.hid hys
    have HDS := Lib.hid hds
    have HLB := Lib.hid hlb
    have HIB := Lib.hid hib
    have HDB := Lib.hid hdb
    clear hxs hys hds hlb hib hdb
    have HB := Lib.hid hB
    have HL := Lib.hid hL
    have HD := Lib.hid hD
    have HI := Lib.hid hI
    have HP := Lib.hid hP
    have HZ := Lib.hid hZ
    have HR := Lib.hid hr
    have hbl := hB.lt
    have hrl := hr.lt
    have c0 := hr.cell 0 (v := .slice a r.counts.length c) rfl
    clear hB hL hD hI hP hZ hr HR0 HZ0 HB0 hE
    by_cases hlt : k < r.counts.length
    · obtain ⟨b', off', rfl, p0, p1, p2⟩ := HA.out k hlt
      have hbw := lt_of_cell p0
      have hnB : ¬ (R + 1 ≤ b') := by simp only at hbw; omega
      have hnA : ¬ (R + 1 ≤ w.heap.size) := by omega
      replace p0 := hx.cell p0
      replace p1 := hx.cell p1
      clear p2
      have hbl' := lt_of_cell p0
      have HlN := Lib.hid (own_lt HL.out)
      have HdN := Lib.hid (own_lt HD.out)
      have HiN := Lib.hid (own_lt HI.out)
      have hX1 : (r.counts.take (k + 1)).map (·.start) = xs ++ [r.counts[k].start] := by rw [List.take_succ_eq_append_getElem hlt, List.map_append, HXS.out]; rfl
      have hY1 : (r.counts.take (k + 1)).map (fun c => c.gin == 0) = ys ++ [r.counts[k].gin == 0] := by rw [List.take_succ_eq_append_getElem hlt, List.map_append, HYS.out]; rfl
      have hD1 : List.replicate (k + 1) (0 : Int) = ds ++ [0] := by rw [← HDS.out, List.replicate_succ']
      have HX1 := Lib.hid hX1
      have HY1 := Lib.hid hY1
      have HD1 := Lib.hid hD1
      clear hX1 hY1 hD1
      generalize r.counts[k].start = x at *
      generalize r.counts[k].gin = y at *
      generalize hN : wr.heap.size = N at *
      have hN' := Lib.hid hN
      go_wp2
      refine wp_region_lat (by kernel_rfl) (fun b' _ => R + 1 ≤ b' ∧ b' < N) (fun k => k == 2 || k == 9 || k == 10 || k == 13 || k == 14 || k == 15 || k == 18 || k == 26 || k == 27 || k == 30 || k == 33 || k == 36) (BegR lv dv iv k)
        (BegG (R + 1) (fun p q s => legC p q s r.first 0 false (.slice none 0 0) (.slice none 0 0) 0 0 0 0 0 0 0 0 0) lv dv iv xs ds ys x (y == 0))
        (by kernel_rfl) (fun k hk => by simp only [Bool.or_eq_true, beq_iff_eq] at hk; show k < 37; omega)
        (fun L L' u w hh hg => ⟨by rw [hh 30 rfl, hh 33 rfl, hh 36 rfl]; exact hg.blk, by rw [hh 10 rfl]; exact hg.left, by rw [hh 15 rfl]; exact hg.darts, by rw [hh 27 rfl]; exact hg.inn, by rw [hh 9 rfl, hh 10 rfl, hh 15 rfl]; exact hg.one, by rw [hh 14 rfl, hh 15 rfl, hh 10 rfl]; exact hg.zer, by rw [hh 26 rfl, hh 27 rfl]; exact hg.two, by rw [hh 10 rfl, hh 15 rfl]; exact hg.parts⟩)
        (fun L u w w' hg hx => ⟨hg.blk.ext hx, hg.left.ext hx, hg.darts.ext hx, hg.inn.ext hx, fun h1 h2 => let ⟨k, a1, a2, a3, a4⟩ := hg.one h1 h2; ⟨k, a1, a2, hx.heap a3, a4⟩, fun h1 h2 => let ⟨k, a1, a2, a3, a4⟩ := hg.zer h1 h2; ⟨k, a1, a2, hx.heap a3, a4⟩, fun h1 h2 => let ⟨k, a1, a2, a3⟩ := hg.two h1 h2; ⟨k, a1, a2, hx.heap a3⟩, hg.parts⟩)
        (fun j => if j = 2 then lv else if j = 13 then dv else if j = 18 then iv else if j = 9 ∨ j = 14 ∨ j = 26 then .slice (some ⟨0, 0, none⟩) 1 1 else .slice none (k + 1) 0)
        (fun j hj => ⟨fun h => by subst h; rfl, fun h => by subst h; rfl, fun h => by subst h; rfl, fun h => by rcases h with rfl | rfl | rfl <;> exact ⟨0, rfl⟩, fun h => by rcases h with rfl | rfl | rfl <;> exact ⟨none, 0, rfl⟩⟩)
        ⟨HB.out.drew, HL.out.ext ((Ext.refl _).drew), HD.out.ext ((Ext.refl _).drew), HI.out.ext ((Ext.refl _).drew), fun h => (by cases h), fun h => (by cases h), fun h => (by cases h), HP.out⟩ ?_
      intro T hT hne u hu
      have u2 := (hu 2 rfl).1 rfl
      have u13 := (hu 13 rfl).2.1 rfl
      have u18 := (hu 18 rfl).2.2.1 rfl
      obtain ⟨k9, u9⟩ := (hu 9 rfl).2.2.2.1 (.inl rfl)
      obtain ⟨k14, u14⟩ := (hu 14 rfl).2.2.2.1 (.inr (.inl rfl))
      obtain ⟨k26, u26⟩ := (hu 26 rfl).2.2.2.1 (.inr (.inr rfl))
      obtain ⟨a10, c10, u10⟩ := (hu 10 rfl).2.2.2.2 (.inl rfl)
      obtain ⟨a15, c15, u15⟩ := (hu 15 rfl).2.2.2.2 (.inr (.inl rfl))
      obtain ⟨a27, c27, u27⟩ := (hu 27 rfl).2.2.2.2 (.inr (.inr rfl))
      refine lx_next 2 (by rfl) (by decide) ?_
      dsimp only [List.take, List.drop]
      repeat (go_big_quiet_step (fail))
      refine wpQuiet_nil ?_
      refine lx_loud (by rfl) (by kernel_rfl) ?_ (fun K hK => ?_)
      · intro L w3 hL hd hcl hC hg
        have hb := hg.blk
        rw [hcl.off hL 40 30 (by kernel_rfl)] at hb
        obtain ⟨z, rfl⟩ := hC
        have hcc := hb.cell 0 (v := lv) rfl
        go_wp2
        exact ⟨BegR.l, ⟨z, rfl⟩, ⟨hg.blk, hg.left, hg.darts, hg.inn, hg.one, hg.zer, hg.two, hg.parts⟩⟩
      rw [u2]
      go_simp
      with_reducible refine hK _ ?_
      clear hK K
      refine lx_next 6 (by rfl) (by decide) ?_
      dsimp only [List.take, List.drop]
      repeat (go_big_quiet_step (fail))
      refine wpQuiet_nil ?_
      refine lx_loud (by rfl) (by kernel_rfl) ?_ (fun K hK => ?_)
      · intro L w3 hL hd hcl hC hg
        obtain ⟨z, rfl⟩ := hC
        have hx9 : Ext z.world (z.world.alloc (.cells #[.int .i64 x] 3)) := (Ext.refl _).alloc _
        have hzs := hg.blk.lt
        go_wp2
        exact ⟨BegR.one (.inl rfl) ⟨_, rfl⟩, ⟨z.ext hx9, rfl⟩, ⟨hg.blk.ext hx9, hg.left.ext hx9, hg.darts.ext hx9, hg.inn.ext hx9, fun _ _ => ⟨z.world.heap.size, rfl, hzs, heap_new _ _, fun e => by have := own_lt hg.darts _ e; omega⟩, fun h1 h2 => let ⟨k, a1, a2, a3, a4⟩ := hg.zer h1 h2; ⟨k, a1, a2, hx9.heap a3, a4⟩, fun h1 h2 => let ⟨k, a1, a2, a3⟩ := hg.two h1 h2; ⟨k, a1, a2, hx9.heap a3⟩, hg.parts⟩⟩
      rw [u9]
      go_simp
      with_reducible refine hK _ ?_
      clear hK K
      refine lx_loud (by rfl) (by kernel_rfl) ?_ (fun K hK => ?_)
      · intro L w3 hL hd hcl hC hg
        obtain ⟨z, rfl⟩ := hC
        have hl : OwnI z.world (R + 1 + 1) lv xs := by have := hg.left; rw [hL] at this; exact this
        obtain ⟨k', hk', hbk, hc, hck⟩ := hg.one (hd 9 (by kernel_rfl)) hL
        obtain rfl : k' = k9 := by rw [u9] at hk'; cases hk'; rfl
        have hst := hcl.off hL 40 30 (by kernel_rfl)
        have hzs := hg.blk.lt
        refine wp_append_i_at rfl _ _ rfl (R + 1 + 1) lv _ rfl hl ⟨k', 0, none⟩ 1 x rfl (by simp [World.cell?, hc]) (by rw [HLB.out]; omega) (by omega) ?_
        intro v' w4 hO4 hg4 hat
        obtain ⟨av, ac, hv', -⟩ := hO4.cells
        rw [show (xs ++ [x]).length = k + 1 by rw [List.length_append, HLB.out]; rfl] at hv'
        subst hv'
        have hlv := own_lt hl
        have hC4 := grown_chg hg4
        have HO4 := Lib.hid hO4
        have hat' := Lib.hid hat
        clear hO4 hat
        have hpa : ∀ i, lv.ownBlock = some i → (bif L 15 then u 15 else dv).ownBlock ≠ some i := by
          have := hg.parts
          rw [hL] at this
          exact this
        have hfr := own_lt hg.darts
        have HPa := Lib.hid hpa
        have HFr := Lib.hid hfr
        clear hpa hfr
        go_wp2
        refine ⟨BegR.app (.inl rfl), ⟨z.chgd hC4 (fun i e => ?_), rfl⟩, ?_⟩
        · have := HlN.out i e; exact .inr fun _ => by omega
        · have hb4 := hg.blk.chg hC4 (fun e => by have := (hlv _ e).1; omega)
          have hnew : ∀ i, (Value.slice av (k + 1) ac).ownBlock = some i → (bif L 15 then u 15 else dv).ownBlock ≠ some i := fun i e e2 => by
            rcases hat'.out with h | h
            · exact HPa.out i (h ▸ e) e2
            · rw [h] at e; cases e; have := (HFr.out _ e2).2; omega
          have hother := hg.darts.chg hC4 (fun i e e2 => HPa.out i e2 e)
          have hinn := hg.inn.chg hC4 (fun i e e2 => own_ne hl hg.inn (by decide) i e2 e)
          refine ⟨?_, HO4.out, hother, hinn, fun h1 h2 => by simp [upd] at h2, fun h1 h2 => ?_, fun h1 h2 => ?_, hnew⟩
          · simp only [upd, updv]
            rw [hst] at hb4 ⊢
            exact hb4
          · obtain ⟨k2, a1, a2, a3, a4⟩ := hg.zer h1 h2
            rw [hL] at a4
            refine ⟨k2, a1, a2, hC4.heap a3 a4, fun e => ?_⟩
            rcases hat'.out with h | h
            · exact a4 (h ▸ e)
            · have h5 := h.symm.trans e
              cases h5
              have := (Array.getElem?_eq_some_iff.1 a3).1
              omega
          · obtain ⟨k2, a1, a2, a3⟩ := hg.two h1 h2
            exact ⟨k2, a1, a2, hC4.heap a3 (ne_of_type hl a3 (by decide))⟩
      rw [u10]
      go_simp
      with_reducible refine hK _ ?_
      clear hK K
      refine lx_next 2 (by rfl) (by decide) ?_
      dsimp only [List.take, List.drop]
      repeat (go_big_quiet_step (fail))
      refine wpQuiet_nil ?_
      refine lx_loud (by rfl) (by kernel_rfl) ?_ (fun K hK => ?_)
      · intro L w3 hL hd hcl hC hg
        have hb := hg.blk
        rw [hcl.off hL 40 33 (by kernel_rfl)] at hb
        obtain ⟨z, rfl⟩ := hC
        have hcc := hb.cell 1 (v := dv) rfl
        go_wp2
        exact ⟨BegR.d, ⟨z, rfl⟩, ⟨hg.blk, hg.left, hg.darts, hg.inn, hg.one, hg.zer, hg.two, hg.parts⟩⟩
      rw [u13]
      go_simp
      with_reducible refine hK _ ?_
      clear hK K
      refine lx_loud (by rfl) (by kernel_rfl) ?_ (fun K hK => ?_)
      · intro L w3 hL hd hcl hC hg
        obtain ⟨z, rfl⟩ := hC
        have hx9 : Ext z.world (z.world.alloc (.cells #[.int .i64 0] 3)) := (Ext.refl _).alloc _
        have hzs := hg.blk.lt
        go_wp2
        exact ⟨BegR.one (.inr (.inl rfl)) ⟨_, rfl⟩, ⟨z.ext hx9, rfl⟩, ⟨hg.blk.ext hx9, hg.left.ext hx9, hg.darts.ext hx9, hg.inn.ext hx9, fun h1 h2 => let ⟨k, a1, a2, a3, a4⟩ := hg.one h1 h2; ⟨k, a1, a2, hx9.heap a3, a4⟩, fun _ _ => ⟨z.world.heap.size, rfl, hzs, heap_new _ _, fun e => by have := own_lt hg.left _ e; omega⟩, fun h1 h2 => let ⟨k, a1, a2, a3⟩ := hg.two h1 h2; ⟨k, a1, a2, hx9.heap a3⟩, hg.parts⟩⟩
      rw [u14]
      go_simp
      with_reducible refine hK _ ?_
      clear hK K
      refine lx_loud (by rfl) (by kernel_rfl) ?_ (fun K hK => ?_)
      · intro L w3 hL hd hcl hC hg
        obtain ⟨z, rfl⟩ := hC
        have hl : OwnI z.world (R + 1 + 1) dv ds := by have := hg.darts; rw [hL] at this; exact this
        obtain ⟨k', hk', hbk, hc, hck⟩ := hg.zer (hd 14 (by kernel_rfl)) hL
        obtain rfl : k' = k14 := by rw [u14] at hk'; cases hk'; rfl
        have hst := hcl.off hL 40 33 (by kernel_rfl)
        have hzs := hg.blk.lt
        refine wp_append_i_at rfl _ _ rfl (R + 1 + 1) dv _ rfl hl ⟨k', 0, none⟩ 1 0 rfl (by simp [World.cell?, hc]) (by rw [HDB.out]; omega) (by omega) ?_
        intro v' w4 hO4 hg4 hat
        obtain ⟨av, ac, hv', -⟩ := hO4.cells
        rw [show (ds ++ [(0 : Int)]).length = k + 1 by rw [List.length_append, HDB.out]; rfl] at hv'
        subst hv'
        have hlv := own_lt hl
        have hC4 := grown_chg hg4
        have HO4 := Lib.hid hO4
        have hat' := Lib.hid hat
        clear hO4 hat
        have hpa : ∀ i, dv.ownBlock = some i → (bif L 10 then u 10 else lv).ownBlock ≠ some i := by
          have := hg.parts
          rw [hL] at this
          exact fun i e e2 => this i e2 e
        have hfr := own_lt hg.left
        have HPa := Lib.hid hpa
        have HFr := Lib.hid hfr
        clear hpa hfr
        go_wp2
        refine ⟨BegR.app (.inr (.inl rfl)), ⟨z.chgd hC4 (fun i e => ?_), rfl⟩, ?_⟩
        · have := HdN.out i e; exact .inr fun _ => by omega
        · have hb4 := hg.blk.chg hC4 (fun e => by have := (hlv _ e).1; omega)
          have hnew : ∀ i, (Value.slice av (k + 1) ac).ownBlock = some i → (bif L 10 then u 10 else lv).ownBlock ≠ some i := fun i e e2 => by
            rcases hat'.out with h | h
            · exact HPa.out i (h ▸ e) e2
            · rw [h] at e; cases e; have := (HFr.out _ e2).2; omega
          have hother := hg.left.chg hC4 (fun i e e2 => HPa.out i e2 e)
          have hinn := hg.inn.chg hC4 (fun i e e2 => own_ne hl hg.inn (by decide) i e2 e)
          refine ⟨?_, hother, HO4.out, hinn, fun h1 h2 => ?_, fun h1 h2 => by simp [upd] at h2, fun h1 h2 => ?_, fun i e e2 => hnew i e2 e⟩
          · simp only [upd, updv]
            rw [hst] at hb4 ⊢
            exact hb4
          · obtain ⟨k2, a1, a2, a3, a4⟩ := hg.one h1 h2
            rw [hL] at a4
            refine ⟨k2, a1, a2, hC4.heap a3 a4, fun e => ?_⟩
            rcases hat'.out with h | h
            · exact a4 (h ▸ e)
            · have h5 := h.symm.trans e
              cases h5
              have := (Array.getElem?_eq_some_iff.1 a3).1
              omega
          · obtain ⟨k2, a1, a2, a3⟩ := hg.two h1 h2
            exact ⟨k2, a1, a2, hC4.heap a3 (ne_of_type hl a3 (by decide))⟩
      rw [u15]
      go_simp
      with_reducible refine hK _ ?_
      clear hK K
      refine lx_next 2 (by rfl) (by decide) ?_
      dsimp only [List.take, List.drop]
      repeat (go_big_quiet_step (fail))
      refine wpQuiet_nil ?_
      refine lx_loud (by rfl) (by kernel_rfl) ?_ (fun K hK => ?_)
      · intro L w3 hL hd hcl hC hg
        have hb := hg.blk
        rw [hcl.off hL 40 36 (by kernel_rfl)] at hb
        obtain ⟨z, rfl⟩ := hC
        have hcc := hb.cell 2 (v := iv) rfl
        go_wp2
        exact ⟨BegR.i, ⟨z, rfl⟩, ⟨hg.blk, hg.left, hg.darts, hg.inn, hg.one, hg.zer, hg.two, hg.parts⟩⟩
      rw [u18]
      go_simp
      with_reducible refine hK _ ?_
      clear hK K
      refine lx_next 7 (by rfl) (by decide) ?_
      dsimp only [List.take, List.drop]
      repeat (go_big_quiet_step (fail))
      refine wpQuiet_nil ?_
      refine lx_loud (by rfl) (by kernel_rfl) ?_ (fun K hK => ?_)
      · intro L w3 hL hd hcl hC hg
        obtain ⟨z, rfl⟩ := hC
        have hx9 : Ext z.world (z.world.alloc (.cells #[.bool (y == 0)] 4)) := (Ext.refl _).alloc _
        have hzs := hg.blk.lt
        go_wp2
        exact ⟨BegR.one (.inr (.inr rfl)) ⟨_, rfl⟩, ⟨z.ext hx9, rfl⟩, ⟨hg.blk.ext hx9, hg.left.ext hx9, hg.darts.ext hx9, hg.inn.ext hx9, fun h1 h2 => let ⟨k, a1, a2, a3, a4⟩ := hg.one h1 h2; ⟨k, a1, a2, hx9.heap a3, a4⟩, fun h1 h2 => let ⟨k, a1, a2, a3, a4⟩ := hg.zer h1 h2; ⟨k, a1, a2, hx9.heap a3, a4⟩, fun _ _ => ⟨z.world.heap.size, rfl, hzs, heap_new _ _⟩, hg.parts⟩⟩
      rw [u26]
      go_simp
      with_reducible refine hK _ ?_
      clear hK K
      refine lx_loud (by rfl) (by kernel_rfl) ?_ (fun K hK => ?_)
      · intro L w3 hL hd hcl hC hg
        obtain ⟨z, rfl⟩ := hC
        have hl : OwnB z.world (R + 1 + 1) iv ys := by have := hg.inn; rw [hL] at this; exact this
        obtain ⟨k', hk', hbk, hc⟩ := hg.two (hd 26 (by kernel_rfl)) hL
        obtain rfl : k' = k26 := by rw [u26] at hk'; cases hk'; rfl
        have hst := hcl.off hL 40 36 (by kernel_rfl)
        have hzs := hg.blk.lt
        refine wp_append_bo rfl _ _ rfl (R + 1 + 1) iv _ rfl hl ⟨k', 0, none⟩ 1 (y == 0) rfl (by simp [World.cell?, hc]) (by rw [HIB.out]; omega) (by omega) ?_
        intro v' w4 hO4 hg4
        obtain ⟨av, ac, hv'⟩ := OwnB.shape hO4
        rw [show (ys ++ [(y == 0)]).length = k + 1 by rw [List.length_append, HIB.out]; rfl] at hv'
        subst hv'
        have hlv := own_lt hl
        have hC4 := grown_chg hg4
        have HO4 := Lib.hid hO4
        clear hO4
        go_wp2
        refine ⟨BegR.app (.inr (.inr rfl)), ⟨z.chgd hC4 (fun i e => ?_), rfl⟩, ?_⟩
        · have := HiN.out i e; exact .inr fun _ => by omega
        · have hb4 := hg.blk.chg hC4 (fun e => by have := (hlv _ e).1; omega)
          refine ⟨?_, hg.left.chg hC4 (fun i e e2 => own_ne hl hg.left (by decide) i e2 e), hg.darts.chg hC4 (fun i e e2 => own_ne hl hg.darts (by decide) i e2 e), HO4.out, fun h1 h2 => ?_, fun h1 h2 => ?_, fun h1 h2 => by simp [upd] at h2, hg.parts⟩
          · simp only [upd, updv]
            rw [hst] at hb4 ⊢
            exact hb4
          · obtain ⟨k2, a1, a2, a3, a4⟩ := hg.one h1 h2
            exact ⟨k2, a1, a2, hC4.heap a3 (ne_of_type hl a3 (by decide)), a4⟩
          · obtain ⟨k2, a1, a2, a3, a4⟩ := hg.zer h1 h2
            exact ⟨k2, a1, a2, hC4.heap a3 (ne_of_type hl a3 (by decide)), a4⟩
      rw [u27]
      go_simp
      with_reducible refine hK _ ?_
      clear hK K
      refine lx_next 2 (by rfl) (by decide) ?_
      dsimp only [List.take, List.drop]
      repeat (go_big_quiet_step (fail))
      refine wpQuiet_nil ?_
      refine lx_loud (by rfl) (by kernel_rfl) ?_ (fun K hK => ?_)
      · intro L w3 hL hd hcl hC hg
        obtain ⟨z, rfl⟩ := hC
        have f4 := hg.blk.frozen 0
        have hcc := hg.blk.cell 0 rfl
        have hzs := hg.blk.lt
        have hset := Chg.setCell (S := (· = R + 1)) (Chg.refl _ z.world) (p := ⟨R + 1, 0, none⟩) (.inr rfl) (.slice a10 (k + 1) c10)
        have hlL := own_lt hg.left
        have hlD := own_lt hg.darts
        have hlI := own_lt hg.inn
        have hnb : R + 1 < N := by omega
        go_wp2
        refine ⟨BegR.none (.inl rfl), ⟨z.chgd hset (fun i e => .inr fun _ => by omega), rfl⟩, ⟨?_, hg.left.chg hset (fun i e e' => by have := (hlL i e).1; omega), hg.darts.chg hset (fun i e e' => by have := (hlD i e).1; omega), hg.inn.chg hset (fun i e e' => by have := (hlI i e).1; omega), fun h1 h2 => ?_, fun h1 h2 => ?_, fun h1 h2 => ?_, hg.parts⟩⟩
        · have := hg.blk.set 0 (.slice a10 (k + 1) c10)
          simp only [upd, updv]
          rw [u10]
          exact this
        · obtain ⟨k2, a1, a2, a3, a4⟩ := hg.one h1 h2
          exact ⟨k2, a1, a2, hset.heap a3 (by omega), a4⟩
        · obtain ⟨k2, a1, a2, a3, a4⟩ := hg.zer h1 h2
          exact ⟨k2, a1, a2, hset.heap a3 (by omega), a4⟩
        · obtain ⟨k2, a1, a2, a3⟩ := hg.two h1 h2
          exact ⟨k2, a1, a2, hset.heap a3 (by omega)⟩
      go_simp
      with_reducible refine hK _ ?_
      clear hK K
      refine lx_next 2 (by rfl) (by decide) ?_
      dsimp only [List.take, List.drop]
      repeat (go_big_quiet_step (fail))
      refine wpQuiet_nil ?_
      refine lx_loud (by rfl) (by kernel_rfl) ?_ (fun K hK => ?_)
      · intro L w3 hL hd hcl hC hg
        obtain ⟨z, rfl⟩ := hC
        have f4 := hg.blk.frozen 1
        have hcc := hg.blk.cell 1 rfl
        have hzs := hg.blk.lt
        have hset := Chg.setCell (S := (· = R + 1)) (Chg.refl _ z.world) (p := ⟨R + 1, 1, none⟩) (.inr rfl) (.slice a15 (k + 1) c15)
        have hlL := own_lt hg.left
        have hlD := own_lt hg.darts
        have hlI := own_lt hg.inn
        have hnb : R + 1 < N := by omega
        go_wp2
        refine ⟨BegR.none (.inr (.inl rfl)), ⟨z.chgd hset (fun i e => .inr fun _ => by omega), rfl⟩, ⟨?_, hg.left.chg hset (fun i e e' => by have := (hlL i e).1; omega), hg.darts.chg hset (fun i e e' => by have := (hlD i e).1; omega), hg.inn.chg hset (fun i e e' => by have := (hlI i e).1; omega), fun h1 h2 => ?_, fun h1 h2 => ?_, fun h1 h2 => ?_, hg.parts⟩⟩
        · have := hg.blk.set 1 (.slice a15 (k + 1) c15)
          simp only [upd, updv]
          rw [u15]
          exact this
        · obtain ⟨k2, a1, a2, a3, a4⟩ := hg.one h1 h2
          exact ⟨k2, a1, a2, hset.heap a3 (by omega), a4⟩
        · obtain ⟨k2, a1, a2, a3, a4⟩ := hg.zer h1 h2
          exact ⟨k2, a1, a2, hset.heap a3 (by omega), a4⟩
        · obtain ⟨k2, a1, a2, a3⟩ := hg.two h1 h2
          exact ⟨k2, a1, a2, hset.heap a3 (by omega)⟩
      go_simp
      with_reducible refine hK _ ?_
      clear hK K
      refine lx_next 2 (by rfl) (by decide) ?_
      dsimp only [List.take, List.drop]
      repeat (go_big_quiet_step (fail))
      refine wpQuiet_nil ?_
      refine lx_loud (by rfl) (by kernel_rfl) ?_ (fun K hK => ?_)
      · intro L w3 hL hd hcl hC hg
        obtain ⟨z, rfl⟩ := hC
        have f4 := hg.blk.frozen 2
        have hcc := hg.blk.cell 2 rfl
        have hzs := hg.blk.lt
        have hset := Chg.setCell (S := (· = R + 1)) (Chg.refl _ z.world) (p := ⟨R + 1, 2, none⟩) (.inr rfl) (.slice a27 (k + 1) c27)
        have hlL := own_lt hg.left
        have hlD := own_lt hg.darts
        have hlI := own_lt hg.inn
        have hnb : R + 1 < N := by omega
        go_wp2
        refine ⟨BegR.none (.inr (.inr rfl)), ⟨z.chgd hset (fun i e => .inr fun _ => by omega), rfl⟩, ⟨?_, hg.left.chg hset (fun i e e' => by have := (hlL i e).1; omega), hg.darts.chg hset (fun i e e' => by have := (hlD i e).1; omega), hg.inn.chg hset (fun i e e' => by have := (hlI i e).1; omega), fun h1 h2 => ?_, fun h1 h2 => ?_, fun h1 h2 => ?_, hg.parts⟩⟩
        · have := hg.blk.set 2 (.slice a27 (k + 1) c27)
          simp only [upd, updv]
          rw [u27]
          exact this
        · obtain ⟨k2, a1, a2, a3, a4⟩ := hg.one h1 h2
          exact ⟨k2, a1, a2, hset.heap a3 (by omega), a4⟩
        · obtain ⟨k2, a1, a2, a3, a4⟩ := hg.zer h1 h2
          exact ⟨k2, a1, a2, hset.heap a3 (by omega), a4⟩
        · obtain ⟨k2, a1, a2, a3⟩ := hg.two h1 h2
          exact ⟨k2, a1, a2, hset.heap a3 (by omega)⟩
      go_simp
      with_reducible refine hK _ ?_
      clear hK K
      refine lx_nil ?_
      intro z hG
      have hb5 := hG.blk
      have hl5 := hG.left
      have hd5 := hG.darts
      have hi5 := hG.inn
      have hp5 := hG.parts
      simp only [cond_true] at hb5 hl5 hd5 hi5 hp5
      rw [u10] at hb5 hl5 hp5
      rw [u15] at hb5 hd5 hp5
      rw [u27] at hb5 hi5
      have hx5 := Chg.to_ext hx z.chg (by rintro i ⟨_, h1, h2⟩; omega)
      have hz5 := HZ.out.chg z.chg (by rintro ⟨_, h1, h2⟩; omega)
      have hr5 := HR.out.chg z.chg (by rintro ⟨_, h1, h2⟩; omega)
      rw [← HX1.out] at hl5
      rw [← HY1.out] at hi5
      rw [← HD1.out] at hd5
      generalize z.world = W5 at *
      have HB5 := Lib.hid hb5
      have HL5 := Lib.hid hl5
      have HD5 := Lib.hid hd5
      have HI5 := Lib.hid hi5
      have HZ5 := Lib.hid hz5
      have HR5 := Lib.hid hr5
      have HP5 := Lib.hid hp5
      clear hG hb5 hl5 hd5 hi5 hz5 hr5 hp5 u2 u9 u10 u13 u14 u15 u18 u26 u27 hu hT hne p0 p1
      go_wp2
      go_roundw
      case rel => exact ⟨k + 1, _, _, _, by omega, by go_num, HB5.out, HL5.out, HD5.out, HI5.out, HP5.out, HZ5.out, HR5.out, hx5⟩
      case measure => simp [intOf]; omega
    · obtain rfl : k = r.counts.length := by omega
      have e1 : xs = (Gm.begin r).left := by rw [← HXS.out, List.take_of_length_le (by omega)]; rfl
      have e2 : ys = (Gm.begin r).inn := by rw [← HYS.out, List.take_of_length_le (by omega)]; rfl
      have e3 : ds = (Gm.begin r).darts := HDS.out.symm
      have E1 := Lib.hid e1
      have E2 := Lib.hid e2
      have E3 := Lib.hid e3
      clear e1 e2 e3 HXS HYS HDS
      obtain ⟨la, lc, rfl, -⟩ := HL.out.cells
      obtain ⟨da, dc, rfl, -⟩ := HD.out.cells
      obtain ⟨ia, ic, rfl⟩ := OwnB.shape HI.out
      have hzl := HZ.out.lt
      go_wp2_with (refine wp_load_leg rfl _ rfl (R + 1) rfl _ HB.out rfl ?_; refine wp_store_leg rfl _ _ rfl R rfl _ rfl _ HZ.out rfl rfl (by simp [legC, Value.oneCell']) ?_)
      intro W4 hB4 hC4
      go_wp2
      have hL4 := HL.out.chg hC4 (fun k hk e => by have := own_lt HL.out k hk; omega)
      have hD4 := HD.out.chg hC4 (fun k hk e => by have := own_lt HD.out k hk; omega)
      have hI4 := HI.out.chg hC4 (fun k hk e => by have := own_lt HI.out k hk; omega)
      have hx4 : Ext w W4 := Chg.to_ext hx hC4 (fun i e => by cases e; omega)
      clear hC4
      refine bodyPost_ret (v := .agg (legC (.slice la xs.length lc) (.slice da ds.length dc) (.slice ia ys.length ic) r.first 0 false (.slice none 0 0) (.slice none 0 0) 0 0 0 0 0 0 0 0 0)) (results_leg rfl rfl hB4 rfl) rfl ?_
      exact ⟨_, _, _, rfl, by rw [← E1.out]; exact own_mono hL4 (by omega), by rw [← E3.out]; exact own_mono hD4 (by omega), by rw [← E2.out]; exact own_mono hI4 (by omega), hx4⟩
end Go.Proofs.Ytocnglplhnhllaa
