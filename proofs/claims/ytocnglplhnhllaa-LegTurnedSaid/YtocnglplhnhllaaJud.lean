/-
  Package leg: Judge.
-/
import Derived.Test.YtocnglplhnhllaaPla
namespace Go.Proofs.Ytocnglplhnhllaa
open Go.RowKit
/-- A visit that is wrong. -/
structure Flt where
  visit : Int
  dart : Int
  err : Int
  deriving DecidableEq
def Flt.cells (f : Flt) : List Value := [.int .i64 f.visit, .int .i64 f.dart, .int .i64 f.err]
def OwnF (w : World) (base : Nat) (v : Value) (fs : List Flt) : Prop := w.ownsRow base 61 3 v fs.length (fs.flatMap Flt.cells)
theorem info_flt : (Try.prog.info? 61).map (fun i => (i.zero, i.size, i.bytes)) = some (some (.agg #[.int .i64 0, .int .i64 0, .int .i64 0]), 3, 24) := by kernel_rfl
theorem OwnF.nil (w : World) (base : Nat) : OwnF w base (.slice none 0 0) [] := World.ownsRow_nil w base _ _
theorem OwnF.chg {w w' : World} {S : Nat → Prop} {base : Nat} {v : Value} {xs : List Flt} (h : OwnF w base v xs) (hx : Chg S w w') (hs : ∀ k, v.ownBlock = some k → ¬ S k) : OwnF w' base v xs := own_chg h hx hs
theorem OwnF.ext {w w' : World} {base : Nat} {v : Value} {xs : List Flt} (h : OwnF w base v xs) (hx : Ext w w') : OwnF w' base v xs := own_chg h (hx.chg fun _ => False) fun _ _ => id
theorem OwnF.shape {w : World} {base : Nat} {v : Value} {xs : List Flt} (h : OwnF w base v xs) : ∃ a c, v = .slice a xs.length c := by
  obtain ⟨h1, ⟨e, h2⟩ | ⟨g, cap, cur, e, _⟩⟩ := h
  · exact ⟨none, 0, by rw [e, h2]⟩
  · exact ⟨_, _, e⟩
theorem OwnF.type {w : World} {base : Nat} {v : Value} {xs : List Flt} (h : OwnF w base v xs) : ∀ k, v.ownBlock = some k → ∃ cs fz, w.heap[k]? = some (.cells cs 61 fz) := by
  intro k hk
  obtain ⟨_, ⟨e1, _⟩ | ⟨g, cap, cur, e1, _, h3, _⟩⟩ := h
  · rw [e1] at hk; cases hk
  · rw [e1] at hk; cases hk; exact ⟨_, _, h3⟩
theorem new_three (w : World) (a b c : Value) (t : TypeId) : ∀ j u, [a, b, c][j]? = some u → (w.alloc (.cells #[a, b, c] t)).cell? ⟨w.heap.size, j, none⟩ = some u := by
  intro j u hj
  match j, hj with
  | 0, hj => simp at hj; subst hj; simp [go_sem]
  | 1, hj => simp at hj; subst hj; simp [go_sem]
  | 2, hj => simp at hj; subst hj; simp [go_sem]
theorem wp_append_f {w : World} {ops : Array Oper} {rest : List Oper} {o : Oper} {a : Act} {Q : Exit → Act → World → Prop} (hgd : o.guard = none) (s x : Operand)
    (ho : o.op = .call { callee := .builtin .append, args := #[s, x], argTypes := #[57, 57] }) (base : Nat) (v : Value) (xs : List Flt) (hs : a.eval s = v) (hown : OwnF w base v xs) (k c : Nat) (f : Flt)
    (hx : a.eval x = .slice (some ⟨k, 0, none⟩) 1 c) (hn : ∀ j u, [Value.int .i64 f.visit, .int .i64 f.dart, .int .i64 f.err][j]? = some u → w.cell? ⟨k, j, none⟩ = some u) (hlen : xs.length ≤ 1000000000000) (hbase : base ≤ w.heap.size)
    (h : ∀ v' w', OwnF w' base v' (xs ++ [f]) → w.grownBy w' v.ownBlock → wpList Try.prog ops Q rest (a.put o.dst v') w') : wpList Try.prog ops Q (o :: rest) a w := by
  obtain ⟨i0, hi, hz0, hz1, hz2⟩ := info_parts info_flt
  refine wpList_append_own w hgd s x 57 ho base 61 i0 (.agg #[.int .i64 0, .int .i64 0, .int .i64 0]) 3 24 (by kernel_rfl) hi hz0 hz1 hz2 rfl (by decide) v xs.length _ hs hown ⟨k, 0, none⟩ 1 c f.cells hx rfl ?_ ?_ (by unfold maxLen; omega) (by omega) hbase ?_
  · intro j u hj
    have hadd : (⟨k, 0, none⟩ : Addr).add j = ⟨k, j, none⟩ := by unfold Addr.add; split <;> simp_all
    rw [hadd]
    exact hn j u hj
  · intro u hu; simp [Flt.cells] at hu; rcases hu with rfl | rfl | rfl <;> rfl
  · intro v' w' ho' hg _
    refine h v' w' ?_ hg
    unfold OwnF
    simpa using ho'
theorem OnGm.chg_type {w w' : World} {h0 b : Nat} {cv : Value} {r : Rul} {g : Gm} {n : Nat} (h : OnGm w h0 b cv r g n) {S : Nat → Prop} (hx : Chg S w w') (hb : ¬ S b) {t : TypeId} (h1 : 3 ≠ t) (h2 : 4 ≠ t) (hS : ∀ k, S k → ∃ cs fz, w.heap[k]? = some (.cells cs t fz)) : OnGm w' h0 b cv r g n := by
  obtain ⟨lv, dv, iv, wv, em, D, h⟩ := h
  refine ⟨lv, dv, iv, wv, em, D, h.chg hx hb (fun k hk hs => ?_) (fun k hk hs => ?_) (fun k hk hs => ?_) (fun k hk hs => ?_) (fun hs => ?_)⟩
  · obtain ⟨cs, fz, e⟩ := hS k hs; exact ne_of_type h.left e h1 hk
  · obtain ⟨cs, fz, e⟩ := hS k hs; exact ne_of_type h.darts e h1 hk
  · obtain ⟨cs, fz, e⟩ := hS k hs; exact ne_of_type h.inn e h2 hk
  · obtain ⟨cs, fz, e⟩ := hS k hs; exact ne_of_type h.winners e h1 hk
  · obtain ⟨cs, fz, e⟩ := hS _ hs; exact h.own.ne e rfl
def judL (r : Rul) : Gm → Int → List LV → List Flt → Gm × List Flt
  | g, _, [], fs => (g, fs)
  | g, i, v :: l, fs => if (g.step r v.player v.beds).2.2 ≠ 0 then judL r (g.step r v.player v.beds).1 (i + 1) l (fs ++ [⟨i, (g.step r v.player v.beds).2.1, (g.step r v.player v.beds).2.2⟩]) else judL r (g.step r v.player v.beds).1 (i + 1) l fs
def judE (x : Gm × List Flt) : Gm × List Flt × Int := (x.1, x.2, 0)
/-- A leg after all visits that are not wrong, and those that are. -/
def judS (r : Rul) (l : List LV) : Gm × List Flt × Int := if newE r l.length ≠ 0 then (.zero, [], newE r l.length) else judE (judL r (.begin r) 0 l [])
def JudP (w0 : World) (base : Nat) (S : Gm × List Flt × Int) (e : Ending) (w' : World) : Prop :=
  ∃ v fv, e = .returned (.tuple #[v, fv, .int .i64 S.2.2]) ∧ StAt w' base v S.1 ∧ OwnF w' base fv S.2.1 ∧ Ext w0 w'
set_option maxHeartbeats 1000000 in
theorem leg_Judge (r : Rul) (ca : Option Addr) (cc : Nat) (l : List LV) (la : Option Addr) (lc : Nat) (w : World) (hC : CntsAt w ca r.counts) (hl : r.counts.length ≤ 9223372036854775807) (hV : VisAt w la l) (hf : ∀ v ∈ l, v.fits) (hll : l.length ≤ 9223372036854775807)
    (S : Gm × List Flt × Int) (hS : judS r l = S) :
    Calls Try.prog 27 #[.agg #[.slice ca r.counts.length cc, .int .i64 r.first, .int .i64 r.rounds, .bool r.equal], .slice la l.length lc] w (JudP w w.heap.size S) := by
  have HS := Lib.hid hS
  have HC := Lib.hid hC
  have HV := Lib.hid hV
  have HF := Lib.hid hf
  clear hS hC hV hf
  cases hne : newE r l.length == 0
  · have HN := Lib.hid hne
    clear hne
    go_enter Try.func27, Try.ntmps27
    go_wp2_with fail
    refine (newGame_bad r ca cc l.length _ (HC.out.ext (by exact ((Ext.refl w).alloc _).alloc _)) hl HN.out).mono ?_
    rintro e w1 ⟨rfl, hx1⟩
    have hz : Blk w1 (w.heap.size + 1) #[.slice none 0 0, .slice none 0 0, .slice none 0 0, .int .i64 0, .int .i64 0, .bool false, .slice none 0 0] := (Blk.at _ (by simp)).ext hx1
    have hE1 := (((Ext.refl w).alloc (.cells #[.slice ca r.counts.length cc, .int .i64 r.first, .int .i64 r.rounds, .bool r.equal] 42)).alloc (.cells #[.slice none 0 0, .slice none 0 0, .slice none 0 0, .int .i64 0, .int .i64 0, .bool false, .slice none 0 0] 51)).trans hx1
    have HZ := Lib.hid hz
    obtain ⟨⟨z0, z1, z2, z3, z4, z5, z6⟩, zs, f0, f1, f2, f3, f4, f5, f6⟩ := hz.seven
    clear hz hx1
    have hee : (newE r l.length == 0) = false := HN.out
    have hTS : S = (.zero, [], newE r l.length) := by rw [← HS.out]; unfold judS; rw [if_pos (by simpa using hee)]
    have HTS := Lib.hid hTS
    clear hTS HS
    generalize newE r l.length = ee at *
    go_wp2
    generalize hW : World.setCell _ _ _ = W
    have hchg := seven_chg (· = w.heap.size + 1) w1 rfl (.slice none 0 0) (.slice none 0 0) (.slice none 0 0) (.int .i64 0) (.int .i64 0) (.bool false) (.slice none 0 0)
    have hB := seven_set HZ.out (.slice none 0 0) (.slice none 0 0) (.slice none 0 0) (.int .i64 0) (.int .i64 0) (.bool false) (.slice none 0 0)
    rw [hW] at hchg hB
    obtain ⟨⟨q0, q1, q2, q3, q4, q5, q6⟩, _⟩ := hB.seven
    refine bodyPost_ret (v := .tuple #[.agg #[.slice none 0 0, .slice none 0 0, .slice none 0 0, .int .i64 0, .int .i64 0, .bool false, .slice none 0 0], .slice none 0 0, .int .i64 ee]) (by simp [results, Try.results27, go_sem, q0, q1, q2, q3, q4, q5, q6]) rfl ?_
    rw [HTS.out]
    exact ⟨_, _, rfl, ⟨_, _, _, _, rfl, OwnI.nil _ _, OwnI.nil _ _, OwnB.nil _ _, OwnI.nil _ _⟩, OwnF.nil _ _, Chg.to_ext hE1 hchg (by rintro i rfl; omega)⟩
  · have hne' : newE r l.length = 0 := by simpa using hne
    have hok : r.ok = true := by
      unfold newE at hne'
      cases ho : r.ok
      · rw [ho] at hne'; simp at hne'
      · rfl
    have hlen : l.length ≤ 2000 := by
      unfold newE at hne'
      rw [hok] at hne'
      by_cases h : (2000 : Int) < l.length
      · simp [h] at hne'
      · omega
    have hS0 : judE (judL r (Gm.begin r) 0 l []) = S := by rw [← HS.out]; unfold judS; rw [if_neg (by simpa using hne')]
    have HS0 := Lib.hid hS0
    have HN := Lib.hid hne'
    have HOK := Lib.hid hok
    clear hS0 hne' hok HS hne
    go_enter Try.func27, Try.ntmps27
    go_wp2_with fail
    refine (newGame_ok r ca cc l.length _ (HC.out.ext (by exact ((Ext.refl w).alloc _).alloc _)) HN.out).mono ?_
    rintro e w1 ⟨b, rfl, hG1, hx1⟩
    have hz : Blk w1 (w.heap.size + 1) #[.slice none 0 0, .slice none 0 0, .slice none 0 0, .int .i64 0, .int .i64 0, .bool false, .slice none 0 0] := (Blk.at _ (by simp)).ext hx1
    have hE1 := (((Ext.refl w).alloc (.cells #[.slice ca r.counts.length cc, .int .i64 r.first, .int .i64 r.rounds, .bool r.equal] 42)).alloc (.cells #[.slice none 0 0, .slice none 0 0, .slice none 0 0, .int .i64 0, .int .i64 0, .bool false, .slice none 0 0] 51)).trans hx1
    have hG2 : OnGm w1 (w.heap.size + 2) b (.slice ca r.counts.length cc) r (Gm.begin r) 0 := by simpa using hG1
    have HG := Lib.hid hG2
    have HZ := Lib.hid hz
    have hbl1 : b < w1.heap.size := by
      obtain ⟨lv, dv, iv, wv, em, D, hO⟩ := HG.out
      exact hO.blk.lt
    have hs1 : w.heap.size + 2 ≤ w1.heap.size := by have := hx1.size; simpa using this
    clear hG1 hG2 hz hx1
    go_wp2
    go_loopw [5, 25] (fun fv i wr => ∃ (k : Nat) (g : Gm) (fs : List Flt), k ≤ l.length ∧ i = .int .i64 k ∧ fs.length ≤ k ∧ w1.heap.size ≤ wr.heap.size ∧ OwnF wr w1.heap.size fv fs ∧ OnGm wr (w.heap.size + 2) b (.slice ca r.counts.length cc) r g k ∧ g.Ok r k ∧ judE (judL r g k (l.drop k) fs) = S ∧ Blk wr (w.heap.size + 1) #[.slice none 0 0, .slice none 0 0, .slice none 0 0, .int .i64 0, .int .i64 0, .bool false, .slice none 0 0] ∧ Ext w wr) (fun _ i _ => l.length - (intOf i).toNat)
    case atStart => exact ⟨0, Gm.begin r, [], Nat.zero_le _, rfl, Nat.le_refl _, Nat.le_refl _, OwnF.nil _ _, HG.out, Gm.Ok.begin HOK.out, HS0.out, HZ.out, hE1⟩
    case round =>
      obtain ⟨k, g, fs, hk, rfl, hfk, hwr, hF, hG, hI, hS, hZ, hx⟩ := hrel
      have HFk := Lib.hid hF
      clear hF
      have HGk := Lib.hid hG
      have HIk := Lib.hid hI
      have HSk := Lib.hid hS
      have HZk := Lib.hid hZ
      clear hG hI hS hZ HG HZ HS0 hE1
      by_cases hlt : k < l.length
      · obtain ⟨vb, vo, ba, bc, rfl, p0, p1, hbe⟩ := HV.out k hlt
        replace p0 := hx.cell p0
        replace p1 := hx.cell p1
        obtain ⟨-, hbi, hbl⟩ := HF.out _ (List.getElem_mem hlt)
        have hpl := lt_of_cell p0
        have hdrop : l.drop k = l[k] :: l.drop (k + 1) := by simp
        have hS1 := HSk.out
        rw [hdrop] at hS1
        unfold judL at hS1
        have HS1 := Lib.hid hS1
        have HBE := Lib.hid (hbe.ext hx)
        have HBI := Lib.hid hbi
        clear hS1 HSk hdrop hbe hbi
        have hOk1 := HIk.out.step l[k].player l[k].beds
        have hD := fun W hW => do_any r g (w.heap.size + 2) b _ cc k l[k].player l[k].beds ba bc W HOK.out (HGk.out.ext hW) HIk.out (by omega) (HC.out.ext (hx.trans hW)) (HBE.out.ext hW) HBI.out hbl
        generalize g.step r l[k].player l[k].beds = T at *
        obtain ⟨g', at', er⟩ := T
        have HOk1 := Lib.hid hOk1
        have HD := Lib.hid hD
        clear hOk1 hD
        go_wp2_with fail
        refine (HD.out _ ((Ext.refl _).alloc _)).mono ?_
        rintro e w2 ⟨rfl, hG2, hC2⟩
        have hE2 : Ext w w2 := Chg.to_ext (hx.alloc _) hC2 (by intro i hi; have := hi.1; omega)
        have hZ2 := (HZk.out.alloc (.cells #[.int .i64 l[k].player, .slice ba l[k].beds.length bc] 84)).chg hC2 (fun hi => by have := hi.1; omega)
        have hF2 := (HFk.out.ext ((Ext.refl _).alloc (.cells #[.int .i64 l[k].player, .slice ba l[k].beds.length bc] 84))).chg hC2 (fun i e hi => by
          have h1 := own_lt HFk.out i e
          have h2 := OwnF.type HFk.out i e
          rcases hi.2 with h | ⟨cs, fz, h⟩ | ⟨cs, fz, h⟩ | ⟨cs, fz, h⟩
          · omega
          · obtain ⟨cs', fz', h2⟩ := h2
            rw [((Ext.refl wr).alloc _).heap h2] at h
            injection h with h; injection h with _ h; exact absurd h (by decide)
          · obtain ⟨cs', fz', h2⟩ := h2
            rw [((Ext.refl wr).alloc _).heap h2] at h
            injection h with h; injection h with _ h; exact absurd h (by decide)
          · obtain ⟨cs', fz', h2⟩ := h2
            rw [((Ext.refl wr).alloc _).heap h2] at h
            injection h with h; cases h)
        have HF2 := Lib.hid hF2
        have HG2 := Lib.hid hG2
        have HZ2 := Lib.hid hZ2
        have hR2 : w1.heap.size ≤ w2.heap.size := by have := hC2.size; simp at this; omega
        clear hG2 hC2 hZ2 HD HZk HGk HBE p0 p1 hF2
        cases he : er == 0
        · have hS2 : judE (judL r g' (k + 1) (l.drop (k + 1)) (fs ++ [⟨k, at', er⟩])) = S := by rw [← HS1.out, if_pos (by simpa using he)]
          have HS2 := Lib.hid hS2
          clear hS2
          obtain ⟨a5, c5, hfv⟩ := OwnF.shape HF2.out
          subst hfv
          go_wp2_with (at_builtin; refine wp_append_f rfl _ _ rfl w1.heap.size _ fs rfl (HF2.out.ext ((Ext.refl w2).alloc _)) w2.heap.size 1 ⟨k, at', er⟩ rfl (new_three _ _ _ _ _) (by omega) (by simp; omega) ?_)
          intro v' w4 hO4 hg4
          have hfr := own_lt HF2.out
          have hX4 := (Ext.refl w2).alloc (.cells #[.int .i64 k, .int .i64 at', .int .i64 er] 61)
          have hC4 := grown_chg hg4
          have hE4 : Ext w w4 := Chg.to_ext (hE2.trans hX4) hC4 (fun i e => by have := hfr i e; omega)
          have hG4 := (HG2.out.ext hX4).chg_type hC4 (fun e => by have := hfr _ e; omega) (t := 61) (by decide) (by decide) (fun i e => by
            obtain ⟨cs, fz, h⟩ := OwnF.type HF2.out i e
            exact ⟨cs, fz, hX4.heap h⟩)
          have hZ4 := (HZ2.out.ext hX4).chg hC4 (fun e => by have := hfr _ e; omega)
          have hR4 : w1.heap.size ≤ w4.heap.size := by have := hC4.size; simp at this; omega
          obtain ⟨a6, c6, hfv6⟩ := OwnF.shape hO4
          rw [show (fs ++ [(⟨k, at', er⟩ : Flt)]).length = fs.length + 1 by simp] at hfv6
          subst hfv6
          have HO4 := Lib.hid hO4
          have HG4 := Lib.hid hG4
          have HZ4 := Lib.hid hZ4
          clear hO4 hG4 hZ4 hC4 hX4 hfr hg4
          go_wp2
          go_roundw
          case rel => exact ⟨k + 1, g', _, by omega, by go_num, by simp; omega, hR4, HO4.out, HG4.out, HOk1.out, HS2.out, HZ4.out, hE4⟩
          case measure => simp [intOf]; omega
        · have hS2 : judE (judL r g' (k + 1) (l.drop (k + 1)) fs) = S := by rw [← HS1.out, if_neg (by simpa using he)]
          have HS2 := Lib.hid hS2
          clear hS2
          go_wp2
          go_roundw
          case rel => exact ⟨k + 1, g', fs, by omega, by go_num, by omega, hR2, HF2.out, HG2.out, HOk1.out, HS2.out, HZ2.out, hE2⟩
          case measure => simp [intOf]; omega
      · have hTS : S = (g, fs, 0) := by rw [← HSk.out, List.drop_of_length_le (by omega)]; rfl
        have HTS := Lib.hid hTS
        clear hTS HSk
        obtain ⟨⟨z0, z1, z2, z3, z4, z5, z6⟩, zs, f0, f1, f2, f3, f4, f5, f6⟩ := HZk.out.seven
        obtain ⟨lv, dv, iv, wv, em, D, hO⟩ := HGk.out
        have b4 := hO.blk.cell 4 (v := lv) rfl
        have b5 := hO.blk.cell 5 (v := dv) rfl
        have b6 := hO.blk.cell 6 (v := iv) rfl
        have b7 := hO.blk.cell 7 (v := .int .i64 g.next) rfl
        have b8 := hO.blk.cell 8 (v := .int .i64 g.round) rfl
        have b9 := hO.blk.cell 9 (v := .bool g.over) rfl
        have b10 := hO.blk.cell 10 (v := wv) rfl
        have hblt := hO.blk.lt
        have hlo := hO.lo
        obtain ⟨al, cl, hlv, -⟩ := hO.left.cells
        obtain ⟨ad, cd, hdv, -⟩ := hO.darts.cells
        obtain ⟨ai, ci, hiv⟩ := OwnB.shape hO.inn
        obtain ⟨aw, cw, hwv, -⟩ := hO.winners.cells
        have HO := Lib.hid hO
        clear hO HGk
        obtain ⟨a5, c5, hfv⟩ := OwnF.shape HFk.out
        subst hlv hdv hiv hwv hfv
        go_wp2
        generalize hW : World.setCell _ _ _ = W
        have hchg := seven_chg (· = w.heap.size + 1) wr rfl (.slice al g.left.length cl) (.slice ad g.darts.length cd) (.slice ai g.inn.length ci) (.int .i64 g.next) (.int .i64 g.round) (.bool g.over) (.slice aw g.winners.length cw)
        have hB := seven_set HZk.out (.slice al g.left.length cl) (.slice ad g.darts.length cd) (.slice ai g.inn.length ci) (.int .i64 g.next) (.int .i64 g.round) (.bool g.over) (.slice aw g.winners.length cw)
        rw [hW] at hchg hB
        obtain ⟨⟨q0, q1, q2, q3, q4, q5, q6⟩, _⟩ := hB.seven
        refine bodyPost_ret (v := .tuple #[.agg #[.slice al g.left.length cl, .slice ad g.darts.length cd, .slice ai g.inn.length ci, .int .i64 g.next, .int .i64 g.round, .bool g.over, .slice aw g.winners.length cw], .slice a5 fs.length c5, .int .i64 0]) (by simp [results, Try.results27, go_sem, q0, q1, q2, q3, q4, q5, q6]) rfl ?_
        rw [HTS.out]
        have hO := HO.out
        refine ⟨_, _, rfl, ⟨_, _, _, _, rfl, own_mono (hO.left.chg hchg fun i hi e => ?_) ?_, own_mono (hO.darts.chg hchg fun i hi e => ?_) ?_, own_mono (hO.inn.chg hchg fun i hi e => ?_) ?_, own_mono (hO.winners.chg hchg fun i hi e => ?_) ?_⟩, own_mono (HFk.out.chg hchg fun i hi e => ?_) ?_, Chg.to_ext hx hchg (by rintro i rfl; omega)⟩
        · have := (own_lt hO.left i hi).1; omega
        · omega
        · have := (own_lt hO.darts i hi).1; omega
        · omega
        · have := (own_lt hO.inn i hi).1; omega
        · omega
        · have := (own_lt hO.winners i hi).1; omega
        · omega
        · have := (own_lt HFk.out i hi).1; omega
        · omega
end Go.Proofs.Ytocnglplhnhllaa
