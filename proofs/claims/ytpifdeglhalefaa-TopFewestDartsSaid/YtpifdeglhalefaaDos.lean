/-
  Package leg: do.
-/
import Derived.Test.YtpifdeglhalefaaDop
namespace Go.Proofs.Ytpifdeglhalefaa
open Go.RowKit Go.BigFrame
attribute [local go_sem] Later.cell Later.frozen Lat.cell Lat.frozen
/-- A block that a leg may write. -/
def Tch (w : World) (h0 b k : Nat) : Prop := h0 ≤ k ∧ (k = b ∨ (∃ cs fz, w.heap[k]? = some (.cells cs 3 fz)) ∨ (∃ cs fz, w.heap[k]? = some (.cells cs 4 fz)) ∨ (∃ es cl, w.heap[k]? = some (.map es cl)))
theorem own_type {w : World} {base s n g m c : Nat} {e : TypeId} {xs : List Value} (h : w.ownsRow base e s (.slice (some ⟨g, 0, none⟩) m c) n xs) : ∃ cs fz, w.heap[g]? = some (.cells cs e fz) := by
  obtain ⟨_, ⟨e1, _⟩ | ⟨g, cap, cur, e1, _, h3, _⟩⟩ := h
  · cases e1
  · cases e1; exact ⟨_, _, h3⟩
theorem MapAt.type {w : World} {b n : Nat} {D : DI} (h : MapAt w b n D) : ∃ es cl, w.heap[b]? = some (.map es cl) := by
  obtain ⟨es, cl, he, _⟩ := h
  exact ⟨_, _, he⟩
def DoP (w0 : World) (h0 b : Nat) (cv : Value) (r : Rul) (n : Nat) (S : Gm × Int × Int) (e : Ending) (w' : World) : Prop :=
  e = .returned (.tuple #[.int .i64 S.2.1, .int .i64 S.2.2]) ∧ OnGm w' h0 b cv r S.1 (n + 1) ∧ Chg (Tch w0 h0 b) w0 w'
theorem OnGm.mono {w : World} {h0 b : Nat} {cv : Value} {r : Rul} {g : Gm} {n m : Nat} (h : OnGm w h0 b cv r g n) (hm : n ≤ m) : OnGm w h0 b cv r g m := let ⟨lv, dv, iv, wv, em, D, h⟩ := h; ⟨lv, dv, iv, wv, em, D, h.mono hm⟩
theorem Ext.toChg {w w' : World} {S : Nat → Prop} (h : Ext w w') : Chg S w w' := h.chg _
theorem do_refused (r : Rul) (g : Gm) (h0 b : Nat) (ca : Option Addr) (cc n : Nat) (p : Int) (bv : Value) (beds : List Int) (w : World) (hbv : bv.cells = #[bv]) (hlen : r.counts.length ≤ 8) (h : OnGm w h0 b (.slice ca r.counts.length cc) r g n)
    (hc : (chkS r.counts.length g.next g.over p == 0) = false) :
    Calls Try.prog 38 #[.pointer (some ⟨b, 0, none⟩), .agg #[.int .i64 p, bv]] w (DoP w h0 b (.slice ca r.counts.length cc) r n (g.step r p beds)) := by
  have hs : g.step r p beds = (g, -1, chkS r.counts.length g.next g.over p) := by
    unfold Gm.step; rw [if_pos (by simpa using hc)]
  have HS := Lib.hid hs
  obtain ⟨lv, dv, iv, wv, em, D, hO⟩ := h
  have hC := game_check r ca cc lv dv iv wv g.next g.round g.done g.over em b bv p (w.alloc (.cells #[.int .i64 p, bv] 62)) (by omega) (hO.blk.alloc _) hbv
  have HC := Lib.hid hC
  have HO := Lib.hid hO
  clear hC hO hs
  generalize chkS r.counts.length g.next g.over p = ee at *
  go_enter Try.func38, Try.ntmps38
  go_wp2_with fail
  refine HC.out.mono ?_
  rintro e w1 ⟨rfl, hx1⟩
  have hx : Ext w w1 := ((Ext.refl w).alloc _).trans hx1
  clear HC hx1
  go_wp2
  go_ret2
  rw [HS.out]
  exact ⟨rfl, ⟨lv, dv, iv, wv, em, D, (HO.out.ext hx).mono (by omega)⟩, hx.toChg⟩
theorem leftF_dom {l : List Int} {x c : Int} (h : leftF l l.length x = some c) : (0 ≤ x ∧ x < l.length) ∧ c ∈ l := by
  unfold leftF at h
  split at h
  · rename_i hx; exact ⟨hx, List.mem_of_getElem? h⟩
  · cases h
theorem OnG.congr {w : World} {h0 b : Nat} {cv : Value} {r : Rul} {g g' : Gm} {n : Nat} {lv dv iv wv : Value} {em : Nat} {D : DI} (h : OnG w h0 b cv r g n lv dv iv wv em D) (e : g = g') : OnG w h0 b cv r g' n lv dv iv wv em D := e ▸ h
theorem end_of (r : Rul) (g : Gm) (h0 b : Nat) (cv : Value) (n m : Nat) (lv dv iv wv : Value) (em : Nat) (D : DI) (w : World) (hr : r.ok = true) (h : OnG w h0 b cv r g n lv dv iv wv em D) (hI : g.Ok r m) (hn : n ≤ 3001) (ho : g.over = false) :
    Calls Try.prog 66 #[.pointer (some ⟨b, 0, none⟩)] w fun e w' => e = .returned (.tuple #[]) ∧ OnGm w' h0 b cv r (g.fin r) n ∧ Chg (· = b) w w' := by
  have hlen := Rul.ok_length hr
  obtain rfl := h.fresh ho
  obtain ⟨la, lc, rfl, hcl⟩ := h.left.cells
  have hE := game_end cv r la lc g.left dv iv g.next g.round g.done g.over em b n D g.ended w h.blk h.own h.reads (fun x c e => by have := (hI.ended x c e).2; exact ⟨by omega, by omega⟩) (fun x c e => by have := (hI.ended x c e).1; exact ⟨by omega, by omega⟩) (by omega)
    hcl (fun x hx => by have := hI.lefts x hx; exact ⟨by omega, by omega⟩) (by rw [hI.left]; omega)
  obtain ⟨es, hes, -, hk⟩ := World.ownsMap.entries h.own keyed_i
  have hsz : decide (0 < Maps.size D) = hasF r.counts.length g.ended := by
    rw [Bool.eq_iff_iff, decide_eq_true_iff, h.reads.size (fun es' he p hp => hk p (by rw [hes] at he; cases he; exact hp))]
    unfold hasF
    rw [List.any_eq_true]
    constructor
    · rintro ⟨x, hx, hs⟩
      obtain ⟨c, hc⟩ := Option.isSome_iff_exists.1 hs
      have := (hI.ended x c hc).1
      exact ⟨x.toNat, List.mem_range.2 (by omega), by rw [show ((x.toNat : Nat) : Int) = x by omega]; exact hs⟩
    · rintro ⟨j, hj, hs⟩
      have := List.mem_range.1 hj
      exact ⟨j, ⟨by omega, by omega⟩, hs⟩
  rw [hsz] at hE
  refine hE.mono ?_
  rintro e w1 ⟨rfl, hP⟩
  refine ⟨rfl, ?_⟩
  unfold Gm.fin
  cases hes' : endS r.equal (g.done == 0) (hasF r.counts.length g.ended) (g.round == r.rounds) g.ended (leftF g.left g.left.length) with
  | none =>
    rw [hes'] at hP
    exact ⟨⟨_, dv, iv, _, em, D, h.ext hP⟩, Ext.chg hP _⟩
  | some f =>
    rw [hes'] at hP
    obtain ⟨wv, W, mm, q1, q2, q3, q4, q5, q6⟩ := hP
    have hd : ∀ x c, f x = some c → 0 ≤ x ∧ x < r.counts.length := fun x c e => by
      unfold endS at hes'
      split at hes'
      · cases hes'; exact (hI.ended x c e).1
      · split at hes'
        · cases hes'; have := (leftF_dom e).1; rw [hI.left] at this; exact this
        · cases hes'
    obtain rfl := win_unique q3 q4 q5 hd
    have hlt := h.blk.lt
    refine ⟨⟨_, dv, iv, wv, em, D, ⟨q1, h.lo, h.left.chg q6 (fun k hk e => by have := (own_lt h.left k hk).1; omega), h.darts.chg q6 (fun k hk e => by have := (own_lt h.darts k hk).1; omega), h.inn.chg q6 (fun k hk e => by have := (own_lt h.inn k hk).1; omega), own_mono q2 (by omega), h.parts, h.own.chg q6 h.map_ne, h.elo, h.reads, fun e => (by cases e)⟩⟩, q6⟩
/-- While a visit's outcome is laid. -/
structure VisG (i j : Nat) (base : Nat) (x : Thr) (L : Nat → Bool) (u : Nat → Value) (w : World) : Prop where
  at_ : L i = true → ∃ k, u i = .pointer (some ⟨k, 0, none⟩) ∧ base ≤ k ∧ Blk w k (bif L j then x.cells.toArray else Thr.zero.cells.toArray)
/-- While a leg is written. -/
structure DoG (q : (Nat → Bool) → Gm) (h0 b : Nat) (cv : Value) (r : Rul) (n : Nat) (lv dv iv wv : Value) (em : Nat) (D : DI) (L : Nat → Bool) (w : World) : Prop where
  on : OnG w h0 b cv r (q L) n lv dv iv wv em D
/-- While the map is written. -/
structure DoM (f : Int → Option Int) (g : Gm) (h0 b : Nat) (cv : Value) (r : Rul) (n : Nat) (lv dv iv wv : Value) (em : Nat) (D : DI) (L : Nat → Bool) (w : World) : Prop where
  off : L 7 = false → OnG w h0 b cv r g n lv dv iv wv em D
  on : L 7 = true → ∃ D', OnG w h0 b cv r { g with ended := f } (n + 1) lv dv iv wv em D'
theorem lat0_ext {w : World} {T : World → Prop} (x : LatT (fun _ _ => False) w T) : Ext w x.world := Chg.to_ext (Ext.refl w) x.chg (by rintro i ⟨o, h⟩; exact h.elim)
set_option maxHeartbeats 1000000 in
theorem game_do (r : Rul) (g : Gm) (h0 b : Nat) (ca : Option Addr) (cc n : Nat) (i : Nat) (beds : List Int) (ba : Option Addr) (bc : Nat) (w : World) (hr : r.ok = true) (h : OnGm w h0 b (.slice ca r.counts.length cc) r g n) (hI : g.Ok r n) (hn : n ≤ 3000)
    (hC : CntsAt w ca r.counts) (hb : CellsAt w .i64 ba beds) (hbi : ∀ x ∈ beds, I64 x) (hbl : beds.length ≤ 9223372036854775807) (hc : chkS r.counts.length g.next g.over i = 0) :
    Calls Try.prog 38 #[.pointer (some ⟨b, 0, none⟩), .agg #[.int .i64 i, .slice ba beds.length bc]] w (DoP w h0 b (.slice ca r.counts.length cc) r n (g.step r i beds)) := by
  obtain ⟨ho, -, -, hi⟩ := chkS_zero hc
  replace hi : i < r.counts.length := by omega
  have hlen := Rul.ok_length hr
  have hs : g.step r i beds = if (g.thr r i beds).2.2 ≠ 0 then (g, (g.thr r i beds).2.1, (g.thr r i beds).2.2) else ((g.put r i (g.thr r i beds).1).fin r, -1, 0) := by
    unfold Gm.step; rw [if_neg (by simpa using hc)]; rfl
  obtain ⟨lv, dv, iv, wv, em, D, hO⟩ := h
  have hK := game_check r ca cc lv dv iv wv g.next g.round g.done g.over em b (.slice ba beds.length bc) i (w.alloc (.cells #[.int .i64 i, .slice ba beds.length bc] 62)) (by omega) (hO.blk.alloc _) rfl
  rw [hc] at hK
  have hleft := hI.left_at i
  have HK := Lib.hid hK
  have HO := Lib.hid hO
  have HI := Lib.hid hI
  have HC := Lib.hid hC
  have HB := Lib.hid hb
  have HBI := Lib.hid hbi
  have HS := Lib.hid hs
  have HGO := Lib.hid ho
  have HR := Lib.hid hr
  clear hK hO hI hC hb hbi hs ho hr hc
  go_enter Try.func38, Try.ntmps38
  go_wp2_with fail
  refine HK.out.mono ?_
  rintro e w1 ⟨rfl, hx1⟩
  have hE1 : Ext w w1 := ((Ext.refl w).alloc _).trans hx1
  have hV1 : Blk w1 w.heap.size #[.int .i64 i, .slice ba beds.length bc] := (Blk.at _ (by simp)).ext hx1
  clear HK hx1
  have HO1 := Lib.hid (HO.out.ext hE1)
  have HO0 := HO
  have v0 := hV1.cell 0 rfl
  have v1 := hV1.cell 1 rfl
  have hvl := hV1.lt
  have HV1 := Lib.hid hV1
  clear hV1 HO
  go_wp2
  obtain ⟨lb, lc, rfl, hlb, hlb1⟩ := own_some HO1.out.left (by rw [HI.out.left]; omega)
  obtain ⟨db, dc, rfl, hdb, hdb1⟩ := own_some HO1.out.darts (by rw [HI.out.darts]; omega)
  obtain ⟨ib, ic, rfl, hib, hib1⟩ := own_some HO1.out.inn (by rw [HI.out.inn]; omega)
  have hgl : g.left[i]? = some (g.left.getD i 0) := by rw [List.getElem?_eq_getElem (by rw [HI.out.left]; exact hi)]; simp [List.getD_eq_getElem?_getD, List.getElem?_eq_getElem (show i < g.left.length by rw [HI.out.left]; exact hi)]
  have hgd : g.darts[i]? = some (g.darts.getD i 0) := by rw [List.getElem?_eq_getElem (by rw [HI.out.darts]; exact hi)]; simp [List.getD_eq_getElem?_getD, List.getElem?_eq_getElem (show i < g.darts.length by rw [HI.out.darts]; exact hi)]
  have hgi : g.inn[i]? = some (g.inn.getD i false) := by rw [List.getElem?_eq_getElem (by rw [HI.out.inn]; exact hi)]; simp [List.getD_eq_getElem?_getD, List.getElem?_eq_getElem (show i < g.inn.length by rw [HI.out.inn]; exact hi)]
  have cl := (own_cell HO1.out.left (i := i) (u := .int .i64 (g.left.getD i 0)) (by rw [List.getElem?_map, hgl]; rfl)).1
  have ci := (own_cell HO1.out.inn (i := i) (u := .bool (g.inn.getD i false)) (by rw [List.getElem?_map, hgi]; rfl)).1
  have HGD := Lib.hid hgd
  have HGL := Lib.hid hgl
  have HGI := Lib.hid hgi
  have htl : Tch w h0 b lb := ⟨by have := HO0.out.lo; omega, .inr (.inl (own_type HO0.out.left))⟩
  have htd : Tch w h0 b db := ⟨by have := HO0.out.lo; omega, .inr (.inl (own_type HO0.out.darts))⟩
  have hti : Tch w h0 b ib := ⟨by have := HO0.out.lo; omega, .inr (.inr (.inl (own_type HO0.out.inn)))⟩
  have hte : Tch w h0 b em := ⟨HO0.out.elo, .inr (.inr (.inr HO0.out.own.type))⟩
  have htb : Tch w h0 b b := ⟨HO0.out.lo, .inl rfl⟩
  have HTl := Lib.hid htl
  have HTd := Lib.hid htd
  have HTi := Lib.hid hti
  have HTe := Lib.hid hte
  have HTb := Lib.hid htb
  clear htl htd hti hte htb HO0
  rw [HI.out.left, HI.out.darts, HI.out.inn] at *
  have b0 := HO1.out.blk.cell 0 (v := .slice ca r.counts.length cc) rfl
  have b4 := HO1.out.blk.cell 4 (v := .slice (some ⟨lb, 0, none⟩) r.counts.length lc) rfl
  have b6 := HO1.out.blk.cell 6 (v := .slice (some ⟨ib, 0, none⟩) r.counts.length ic) rfl
  have hbl1 := HO1.out.blk.lt
  clear hgl hgd hgi
  have hdart := HI.out.dart i
  obtain ⟨d0, hd0⟩ : ∃ d0, g.darts.getD i 0 = d0 := ⟨_, rfl⟩
  rw [hd0] at hdart
  have HGD' := Lib.hid (hd0 ▸ HGD.out)
  have HD0 := Lib.hid hd0
  clear hd0 HGD
  obtain ⟨cb, co, rfl, q0, q1, q2⟩ := HC.out i hi
  replace q0 := hE1.cell q0
  replace q1 := hE1.cell q1
  replace q2 := hE1.cell q2
  have hqb := lt_of_cell q0
  have hcnt : cntOf r i = r.counts[i] := by unfold cntOf; simp [List.getD_eq_getElem?_getD, List.getElem?_eq_getElem hi]
  obtain ⟨T, hT⟩ : ∃ T, g.thr r i beds = T := ⟨_, rfl⟩
  have hthr : Go.Proofs.Ytpifdeglhalefaa.thr r.counts[i].gin r.counts[i].gout (g.inn.getD i false) (g.left.getD i 0) beds = T := by rw [← hT, ← hcnt]; rfl
  have hbnd : T.2.2 = 0 → (0 ≤ T.1.left ∧ T.1.left ≤ 1001) ∧ (0 ≤ T.1.darts ∧ T.1.darts ≤ 3) := fun e => by rw [← hthr] at e ⊢; exact thr_bounds e hleft
  have hS := HS.out
  rw [hT] at hS
  have HS2 := Lib.hid hS
  have HT := Lib.hid hthr
  have HBD := Lib.hid hbnd
  have HBe := Lib.hid (HB.out.ext hE1)
  clear hS hthr hT HS hcnt hbnd HB
  generalize g.left.getD i 0 = left0 at *
  generalize g.inn.getD i false = inn0 at *
  generalize hc3 : r.counts[i].start = start at *
  generalize hc4 : r.counts[i].gin = gin at *
  generalize hc5 : r.counts[i].gout = gout at *
  clear hc3 hc4 hc5
  obtain ⟨⟨xl, xs, xd, xi, xb, xw⟩, at_, er⟩ := T
  refine wp_region_lat (by kernel_rfl) (fun _ _ => False) (fun k => k == 31 || k == 32) (fun j v => j = 31 → ∃ k, v = .pointer (some ⟨k, 0, none⟩))
    (VisG 31 32 w1.heap.size ⟨xl, xs, xd, xi, xb, xw⟩)
    (by kernel_rfl) (fun k hk => by simp only [Bool.or_eq_true, beq_iff_eq] at hk; show k < 35; omega)
    (fun L L' u w hh hg => ⟨by rw [hh 31 rfl, hh 32 rfl]; exact hg.at_⟩)
    (fun L u w w' hg hx => ⟨fun hl => let ⟨k, a1, a2, a3⟩ := hg.at_ hl; ⟨k, a1, a2, a3.ext hx⟩⟩)
    (fun _ => .pointer (some ⟨0, 0, none⟩)) (fun j hj _ => ⟨0, rfl⟩)
    ⟨fun h => (by cases h)⟩ ?_
  intro T hT hne u hu
  obtain ⟨m, u31⟩ := hu 31 rfl rfl
  refine lx_next 31 (by rfl) (by decide) ?_
  dsimp only [List.take, List.drop]
  repeat (go_big_quiet_step (with_reducible refine Calls.lat hT (leg_throw start gin gout inn0 left0 beds ba bc _ (HBe.out.ext (lat0_ext _)) HBI.out hbl hleft _ HT.out)))
  refine wpQuiet_nil ?_
  refine lx_loud (by rfl) (by kernel_rfl) ?_ (fun K hK => ?_)
  · intro L w3 hL hd hcl hC hg
    obtain ⟨z, rfl⟩ := hC
    have h32 := hcl.off hL 40 32 (by kernel_rfl)
    have hx9 : Ext z.world (z.world.alloc (.cells #[.int .i64 0, .int .i64 0, .int .i64 0, .bool false, .bool false, .bool false] 107)) := (Ext.refl _).alloc _
    have hsz := z.size
    go_wp2
    refine ⟨⟨_, rfl⟩, ⟨z.ext hx9, rfl⟩, ⟨fun _ => ⟨z.world.heap.size, rfl, hsz, ?_⟩⟩⟩
    simp only [upd]
    rw [h32]
    exact Blk.new z.world _ _
  rw [u31]
  go_simp
  with_reducible refine hK _ ?_
  clear hK K
  refine lx_loud (by rfl) (by kernel_rfl) ?_ (fun K hK => ?_)
  · intro L w3 hL hd hcl hC hg
    obtain ⟨z, rfl⟩ := hC
    obtain ⟨k, hk, hbk, hz⟩ := hg.at_ (hd 31 (by kernel_rfl))
    obtain rfl : k = m := by rw [u31] at hk; cases hk; rfl
    rw [hL] at hz
    have hz' : Blk z.world k #[.int .i64 0, .int .i64 0, .int .i64 0, .bool false, .bool false, .bool false] := hz
    have HZ := Lib.hid hz'
    obtain ⟨⟨y0, y1, y2, y3, y4, y5⟩, ys, g0, g1, g2, g3, g4, g5⟩ := hz'.six
    clear hz hz'
    simp only [Thr.agg]
    go_wp2
    have hX := six_ext (a := w1) (w := z.world) (b := k) (by exact Chg.to_ext (Ext.refl w1) z.chg (by rintro i ⟨o, h⟩; exact h.elim)) (by omega) (.int .i64 xl) (.int .i64 xs) (.int .i64 xd) (.bool xi) (.bool xb) (.bool xw)
    refine ⟨⟨Lat.of_ext _ hX, rfl⟩, ⟨fun _ => ⟨k, hk, hbk, six_set HZ.out _ _ _ _ _ _⟩⟩⟩
  go_simp
  with_reducible refine hK _ ?_
  clear hK K
  refine lx_next 2 (by rfl) (by decide) ?_
  dsimp only [List.take, List.drop]
  repeat (go_big_quiet_step (fail))
  refine wpQuiet_nil ?_
  refine lx_nil ?_
  intro z hG
  obtain ⟨k, hk, hbk, hz⟩ := hG.at_ rfl
  obtain rfl : k = m := by rw [u31] at hk; cases hk; rfl
  have hX : Ext w1 z.world := Chg.to_ext (Ext.refl w1) z.chg (by rintro i ⟨o, h⟩; exact h.elim)
  have hXB : Blk z.world k #[.int .i64 xl, .int .i64 xs, .int .i64 xd, .bool xi, .bool xb, .bool xw] := hz
  have HXB := Lib.hid hXB
  generalize z.world = w2 at *
  have HO2 := Lib.hid (HO1.out.ext hX)
  have hE2 := hE1.trans hX
  have hsz := hX.size
  clear hXB hz hG hX hT hne hu hk u31 z cl ci b0 b4 b6 q0 q1 q2 HO1 HV1 v0 v1
  cases he : er == 0
  · go_wp2
    go_ret2
    rw [HS2.out, if_pos (by simpa using he)]
    exact ⟨rfl, ⟨_, _, _, wv, em, D, HO2.out.mono (by omega)⟩, hE2.toChg⟩
  obtain rfl : er = 0 := by simpa using he
  have hxb := HBD.out rfl
  have hlo := HO2.out.lo
  have n1 : b ≠ lb := by omega
  have n2 : b ≠ ib := by omega
  have n3 : k ≠ lb := by omega
  have n4 : k ≠ ib := by omega
  have b4 := HO2.out.blk.cell 4 (v := .slice (some ⟨lb, 0, none⟩) r.counts.length lc) rfl
  have b6 := HO2.out.blk.cell 6 (v := .slice (some ⟨ib, 0, none⟩) r.counts.length ic) rfl
  have x0 := HXB.out.cell 0 rfl
  have x3 := HXB.out.cell 3 rfl
  have hb2 := HO2.out.blk.lt
  have hk2 := HXB.out.lt
  have hE2h := Lib.hid hE2.size
  go_wp2
  refine wp_region_lat (by kernel_rfl) (fun b' o => (b' = lb ∨ b' = ib) ∧ o = i) (fun k => k == 17 || k == 19) (fun _ _ => True)
    (fun L _ w' => DoG (fun L => { g with left := bif L 17 then g.left.set i xl else g.left, inn := bif L 19 then g.inn.set i xi else g.inn }) h0 b (.slice (some ⟨cb, co, none⟩) r.counts.length cc) r n (.slice (some ⟨lb, 0, none⟩) r.counts.length lc) (.slice (some ⟨db, 0, none⟩) r.counts.length dc) (.slice (some ⟨ib, 0, none⟩) r.counts.length ic) wv em D L w')
    (by kernel_rfl) (fun k hk => by simp only [Bool.or_eq_true, beq_iff_eq] at hk; show k < 20; omega)
    (fun L L' u w hh hg => ⟨by rw [hh 17 rfl, hh 19 rfl]; exact hg.on⟩)
    (fun L u w w' hg hx => ⟨hg.on.ext hx⟩)
    (fun _ => undef) (fun j hj => trivial)
    ⟨HO2.out.ext (Ext.refl _).drew⟩ ?_
  intro T hT hne u hu
  refine lx_next 17 (by rfl) (by decide) ?_
  dsimp only [List.take, List.drop]
  repeat (go_big_quiet_step (fail))
  refine wpQuiet_nil ?_
  refine lx_loud (by rfl) (by kernel_rfl) ?_ (fun K hK => ?_)
  · intro L w3 hL hd hcl hC hg
    obtain ⟨z, rfl⟩ := hC
    have ho := hg.on
    rw [hL] at ho
    have hh := ho.left_set (i := i) HGO.out HI.out.left.symm xl
    have hu := own_cell (i := i) (u := .int .i64 left0) (by have := ho.left; unfold OwnI at this; simp only [cond_false] at this; rw [HI.out.left] at this; exact this) (by rw [List.getElem?_map, HGL.out]; rfl)
    obtain ⟨u1, u2⟩ := hu
    have hlt := lt_of_cell u1
    clear ho hg
    go_wp2
    exact ⟨⟨z.setCell (.inr ⟨.inl rfl, rfl⟩) _, rfl⟩, ⟨hh⟩⟩
  go_simp
  with_reducible refine hK _ ?_
  clear hK K
  refine lx_next 1 (by rfl) (by decide) ?_
  dsimp only [List.take, List.drop]
  repeat (go_big_quiet_step (fail))
  refine wpQuiet_nil ?_
  refine lx_loud (by rfl) (by kernel_rfl) ?_ (fun K hK => ?_)
  · intro L w3 hL hd hcl hC hg
    obtain ⟨z, rfl⟩ := hC
    have ho := hg.on
    rw [hL] at ho
    have hh := ho.inn_set (i := i) HGO.out HI.out.inn.symm xi
    have hu := own_cell (i := i) (u := .bool inn0) (by have := ho.inn; unfold OwnB at this; simp only [cond_false] at this; rw [HI.out.inn] at this; exact this) (by rw [List.getElem?_map, HGI.out]; rfl)
    obtain ⟨u1, u2⟩ := hu
    have hlt := lt_of_cell u1
    clear ho hg
    go_wp2
    exact ⟨⟨z.setCell (.inr ⟨.inr rfl, rfl⟩) _, rfl⟩, ⟨hh⟩⟩
  go_simp
  with_reducible refine hK _ ?_
  clear hK K
  refine lx_nil ?_
  intro z hG
  replace hG := hG.on
  simp only [cond_true] at hG
  have hC3 : Chg (Tch w h0 b) w z.world := (hE2.chg _).trans (z.chg.mono (by rintro j _ ⟨_, rfl | rfl, _⟩; exact HTl.out; exact HTi.out))
  have hB3 := HXB.out.chg z.chg (by rintro ⟨_, h1, _⟩; omega)
  have HO3 := Lib.hid hG
  have HXB3 := Lib.hid hB3
  generalize z.world = w3 at *
  clear z hG hB3 b4 b6 x0 x3 hb2 hk2 HO2 HXB hu hT hne T u n1 n2 n3 n4 hE2
  have n1 : b ≠ db := by omega
  have n3 : k ≠ db := by omega
  have b5 := HO3.out.blk.cell 5 (v := .slice (some ⟨db, 0, none⟩) r.counts.length dc) rfl
  have x2 := HXB3.out.cell 2 (v := .int .i64 xd) rfl
  have hb2 := HO3.out.blk.lt
  have hk2 := HXB3.out.lt
  go_wp2
  refine wp_region_lat (by kernel_rfl) (fun b' o => b' = db ∧ o = i) (fun k => k == 7 || k == 12) (fun j v => j = 7 → v = .int .i64 d0)
    (fun L _ w' => DoG (fun L => { g with left := g.left.set i xl, inn := g.inn.set i xi, darts := bif L 12 then g.darts.set i (d0 + xd) else g.darts }) h0 b (.slice (some ⟨cb, co, none⟩) r.counts.length cc) r n (.slice (some ⟨lb, 0, none⟩) r.counts.length lc) (.slice (some ⟨db, 0, none⟩) r.counts.length dc) (.slice (some ⟨ib, 0, none⟩) r.counts.length ic) wv em D L w')
    (by kernel_rfl) (fun k hk => by simp only [Bool.or_eq_true, beq_iff_eq] at hk; show k < 13; omega)
    (fun L L' u w hh hg => ⟨by rw [hh 12 rfl]; exact hg.on⟩)
    (fun L u w w' hg hx => ⟨hg.on.ext hx⟩)
    (fun _ => .int .i64 d0) (fun j hj _ => rfl)
    ⟨HO3.out.ext (Ext.refl _).drew⟩ ?_
  intro T hT hne u hu
  have u7 := hu 7 rfl rfl
  refine lx_next 7 (by rfl) (by decide) ?_
  dsimp only [List.take, List.drop]
  repeat (go_big_quiet_step (fail))
  refine wpQuiet_nil ?_
  refine lx_loud (by rfl) (by kernel_rfl) ?_ (fun K hK => ?_)
  · intro L w3 hL hd hcl hC hg
    obtain ⟨z, rfl⟩ := hC
    have h12 := hcl.off hL 20 12 (by kernel_rfl)
    have ho := hg.on
    rw [h12] at ho
    have hu := own_cell (i := i) (u := .int .i64 d0) (by have := ho.darts; unfold OwnI at this; simp only [cond_false] at this; rw [HI.out.darts] at this; exact this) (by rw [List.getElem?_map, HGD'.out]; rfl)
    obtain ⟨u1, u2⟩ := hu
    have hlt := lt_of_cell u1
    have HG := Lib.hid hg
    clear ho hg
    go_wp2
    exact ⟨rfl, ⟨z, rfl⟩, ⟨HG.out.on⟩⟩
  rw [u7]
  go_simp
  with_reducible refine hK _ ?_
  clear hK K
  refine lx_next 4 (by rfl) (by decide) ?_
  dsimp only [List.take, List.drop]
  repeat (go_big_quiet_step (fail))
  refine wpQuiet_nil ?_
  refine lx_loud (by rfl) (by kernel_rfl) ?_ (fun K hK => ?_)
  · intro L w3 hL hd hcl hC hg
    obtain ⟨z, rfl⟩ := hC
    have ho := hg.on
    rw [hL] at ho
    have hh := ho.darts_set (i := i) HGO.out HI.out.darts.symm (d0 + xd)
    have hu := own_cell (i := i) (u := .int .i64 d0) (by have := ho.darts; unfold OwnI at this; simp only [cond_false] at this; rw [HI.out.darts] at this; exact this) (by rw [List.getElem?_map, HGD'.out]; rfl)
    obtain ⟨u1, u2⟩ := hu
    have hlt := lt_of_cell u1
    clear ho hg
    go_wp2
    exact ⟨⟨z.setCell (.inr ⟨rfl, rfl⟩) _, rfl⟩, ⟨hh⟩⟩
  go_simp
  with_reducible refine hK _ ?_
  clear hK K
  refine lx_nil ?_
  intro z hG
  replace hG := hG.on
  simp only [cond_true] at hG
  have hC4 : Chg (Tch w h0 b) w z.world := hC3.trans (z.chg.mono (by rintro j _ ⟨_, rfl, _⟩; exact HTd.out))
  have hB4 := HXB3.out.chg z.chg (by rintro ⟨_, h1, _⟩; omega)
  have HO4 := Lib.hid hG
  have HXB4 := Lib.hid hB4
  generalize z.world = w4 at *
  clear z hG hB4 b5 x2 hb2 hk2 HO3 HXB3 hu hT hne T u u7 n1 n3 hC3
  have x5 := HXB4.out.cell 5 (v := .bool xw) rfl
  have hk2 := HXB4.out.lt
  cases xw
  case' true =>
    have b11 := HO4.out.blk.cell 11 (v := .map (some em)) rfl
    have x2 := HXB4.out.cell 2 (v := .int .i64 xd) rfl
    have hbl2 := HO4.out.blk.lt
    have hne1 : k ≠ em := fun e => (by obtain ⟨t, ht⟩ := HXB4.out; exact HO4.out.own.ne ht e.symm)
    have hne2 := HO4.out.map_ne.symm
    have helo := HO4.out.elo
    go_wp2
    refine wp_region_lat (by kernel_rfl) (fun b' o => b' = em) (fun k => k == 7) (fun _ _ => True)
      (fun L _ w' => DoM (updF g.ended i xd) { g with left := g.left.set i xl, inn := g.inn.set i xi, darts := g.darts.set i (d0 + xd) } h0 b (.slice (some ⟨cb, co, none⟩) r.counts.length cc) r n (.slice (some ⟨lb, 0, none⟩) r.counts.length lc) (.slice (some ⟨db, 0, none⟩) r.counts.length dc) (.slice (some ⟨ib, 0, none⟩) r.counts.length ic) wv em D L w')
      (by kernel_rfl) (fun k hk => by simp only [beq_iff_eq] at hk; show k < 8; omega)
      (fun L L' u w hh hg => ⟨by rw [hh 7 rfl]; exact hg.off, by rw [hh 7 rfl]; exact hg.on⟩)
      (fun L u w w' hg hx => ⟨fun h => (hg.off h).ext hx, fun h => let ⟨D', h'⟩ := hg.on h; ⟨D', h'.ext hx⟩⟩)
      (fun _ => undef) (fun j hj => trivial)
      ⟨fun _ => HO4.out.ext (Ext.refl _).drew, fun h => (by cases h)⟩ ?_
    intro T hT hne u hu
    refine lx_next 7 (by rfl) (by decide) ?_
    dsimp only [List.take, List.drop]
    repeat (go_big_quiet_step (fail))
    refine wpQuiet_nil ?_
    refine lx_loud (by rfl) (by kernel_rfl) ?_ (fun K hK => ?_)
    · intro L w3 hL hd hcl hC hg
      obtain ⟨z, rfl⟩ := hC
      have ho := hg.off hL
      have HOo := Lib.hid ho
      clear hg ho
      refine wp_mapUpdate rfl _ _ _ rfl em n D _ rfl HOo.out.own (by omega) HOo.out.reads i xd ⟨by omega, by omega⟩ ⟨by omega, by omega⟩ rfl rfl ?_
      intro w5 D5 ho5 hr5 hg5
      have hC5 := grown_chg hg5
      have hm := HOo.out.mapped (hC5.mono (T := (· = em)) (fun j _ e => by cases e; rfl)) ho5 hr5
      have HM5 := Lib.hid hm
      clear hm ho5 hr5 hg5
      go_wp2
      exact ⟨⟨z.chgd hC5 (fun j e => .inr fun _ => by cases e; rfl), rfl⟩, ⟨fun h => (by simp [upd] at h), fun _ => ⟨D5, HM5.out⟩⟩⟩
    go_simp
    with_reducible refine hK _ ?_
    clear hK K
    refine lx_nil ?_
    intro z hG
    obtain ⟨D5, hG⟩ := hG.on rfl
    have hC5 : Chg (Tch w h0 b) w z.world := hC4.trans (z.chg.mono (by rintro j _ ⟨_, rfl⟩; exact HTe.out))
    have hO5 : OnG z.world h0 b (.slice (some ⟨cb, co, none⟩) r.counts.length cc) r { g with left := g.left.set i xl, inn := g.inn.set i xi, darts := g.darts.set i (d0 + xd), ended := wonF g.ended i ⟨xl, xs, xd, xi, xb, true⟩ } (n + 1) (.slice (some ⟨lb, 0, none⟩) r.counts.length lc) (.slice (some ⟨db, 0, none⟩) r.counts.length dc) (.slice (some ⟨ib, 0, none⟩) r.counts.length ic) wv em D5 := hG
    have HO5 := Lib.hid hO5
    generalize z.world = w5 at *
    clear z hG hO5 b11 x2 hbl2 hne1 hne2 helo hu hT hne T u x5 hk2 HO4 HXB4 hC4
  case' false =>
    have hO5 : OnG w4 h0 b (.slice (some ⟨cb, co, none⟩) r.counts.length cc) r { g with left := g.left.set i xl, inn := g.inn.set i xi, darts := g.darts.set i (d0 + xd), ended := wonF g.ended i ⟨xl, xs, xd, xi, xb, false⟩ } (n + 1) (.slice (some ⟨lb, 0, none⟩) r.counts.length lc) (.slice (some ⟨db, 0, none⟩) r.counts.length dc) (.slice (some ⟨ib, 0, none⟩) r.counts.length ic) wv em D := HO4.out.mono (by omega)
    have hC5 := hC4
    have HO5 := Lib.hid hO5
    have b0 := HO5.out.blk.cell 0 (v := .slice (some ⟨cb, co, none⟩) r.counts.length cc) rfl
    have b7 := HO5.out.blk.cell 7 (v := .int .i64 g.next) rfl
    have b12 := HO5.out.blk.cell 12 (v := .int .i64 g.done) rfl
    have f7 := HO5.out.blk.frozen 7
    have f12 := HO5.out.blk.frozen 12
    have hbl2 := HO5.out.blk.lt
    have hdone := HI.out.done
    clear hO5 hC4 HO4 HXB4
    go_wp2
  case' true =>
    have b0 := HO5.out.blk.cell 0 (v := .slice (some ⟨cb, co, none⟩) r.counts.length cc) rfl
    have b7 := HO5.out.blk.cell 7 (v := .int .i64 g.next) rfl
    have b12 := HO5.out.blk.cell 12 (v := .int .i64 g.done) rfl
    have f7 := HO5.out.blk.frozen 7
    have f12 := HO5.out.blk.frozen 12
    have hbl2 := HO5.out.blk.lt
    have hdone := HI.out.done
    go_wp2
  all_goals
    have hO6 := (HO5.out.next_set (((i : Int) + 1) % (r.counts.length : Int))).done_set (g.done + 1)
    have hC6 := (hC5.setCell (p := ⟨b, 7, none⟩) (.inr HTb.out) (.int .i64 (((i : Int) + 1) % (r.counts.length : Int)))).setCell (p := ⟨b, 12, none⟩) (.inr HTb.out) (.int .i64 (g.done + 1))
    have HO6 := Lib.hid hO6
    clear hO6 b0 b7 b12 f7 f12 hbl2 HO5 hC5
    generalize World.setCell _ _ _ = w6 at *
    have b0 := HO6.out.blk.cell 0 (v := .slice (some ⟨cb, co, none⟩) r.counts.length cc) rfl
    have b12 := HO6.out.blk.cell 12 (v := .int .i64 (g.done + 1)) rfl
    have hbl2 := HO6.out.blk.lt
    cases e4 : g.done + 1 == (r.counts.length : Int)
  all_goals
    refine wp_region_later (by kernel_rfl) (by kernel_rfl) ?_
    repeat (go_big_quiet_step (fail))
    refine wpQuiet_nil ?_
    intro w7 hw7
    obtain ⟨⟨w7, hx7⟩, rfl⟩ := hw7
    have HO7 := Lib.hid (HO6.out.ext hx7)
    have hC7 := hC6.ext' hx7
    clear b0 b12 hbl2 hx7 HO6 hC6
    have b8 := HO7.out.blk.cell 8 (v := .int .i64 g.round) rfl
    have b12 := HO7.out.blk.cell 12 (v := .int .i64 (g.done + 1)) rfl
    have f8 := HO7.out.blk.frozen 8
    have f12 := HO7.out.blk.frozen 12
    have hbl2 := HO7.out.blk.lt
    have hround := HI.out.round
    have hok := fun q => HI.out.put hi (x := ⟨xl, xs, xd, xi, xb, q⟩) hxb
    have HOK := Lib.hid hok
    have HE4 := Lib.hid e4
    clear hok e4
    go_wp2_with fail
    first
      | (have e4 : (g.done + 1 == (r.counts.length : Int)) = true := HE4.out
         have e5 : g.done + 1 = (r.counts.length : Int) := by simpa using e4
         have hC8 := (hC7.setCell (p := ⟨b, 12, none⟩) (.inr HTb.out) (.int .i64 0)).setCell (p := ⟨b, 8, none⟩) (.inr HTb.out) (.int .i64 (g.round + 1))
         have hO8 := ((HO7.out.done_set 0).round_set (g.round + 1)).congr (g' := g.put r i ⟨xl, xs, xd, xi, xb, true⟩) (by simp only [Gm.put, if_pos e5, HD0.out])
         refine (end_of r _ h0 b _ (n + 1) (n + 1) _ _ _ _ _ _ _ HR.out hO8 (HOK.out _) (by omega) HGO.out).mono ?_
         rintro e w9 ⟨rfl, hG9, hC9⟩
         have HG9 := Lib.hid hG9
         have hC10 := hC8.trans (hC9.mono (by rintro j _ rfl; exact HTb.out))
         clear hG9 hO8 hC8 hC9 hC7 e4 e5
         go_wp2
         go_ret2
         rw [HS2.out, if_neg (by simp)]
         exact ⟨rfl, HG9.out, hC10⟩)
      | (have e4 : (g.done + 1 == (r.counts.length : Int)) = true := HE4.out
         have e5 : g.done + 1 = (r.counts.length : Int) := by simpa using e4
         have hC8 := (hC7.setCell (p := ⟨b, 12, none⟩) (.inr HTb.out) (.int .i64 0)).setCell (p := ⟨b, 8, none⟩) (.inr HTb.out) (.int .i64 (g.round + 1))
         have hO8 := ((HO7.out.done_set 0).round_set (g.round + 1)).congr (g' := g.put r i ⟨xl, xs, xd, xi, xb, false⟩) (by simp only [Gm.put, if_pos e5, HD0.out])
         refine (end_of r _ h0 b _ (n + 1) (n + 1) _ _ _ _ _ _ _ HR.out hO8 (HOK.out _) (by omega) HGO.out).mono ?_
         rintro e w9 ⟨rfl, hG9, hC9⟩
         have HG9 := Lib.hid hG9
         have hC10 := hC8.trans (hC9.mono (by rintro j _ rfl; exact HTb.out))
         clear hG9 hO8 hC8 hC9 hC7 e4 e5
         go_wp2
         go_ret2
         rw [HS2.out, if_neg (by simp)]
         exact ⟨rfl, HG9.out, hC10⟩)
      | (have e4 : (g.done + 1 == (r.counts.length : Int)) = false := HE4.out
         have e5 : ¬ g.done + 1 = (r.counts.length : Int) := by simpa using e4
         have hC8 := hC7
         have hO8 := (HO7.out).congr (g' := g.put r i ⟨xl, xs, xd, xi, xb, true⟩) (by simp only [Gm.put, if_neg e5, HD0.out])
         refine (end_of r _ h0 b _ (n + 1) (n + 1) _ _ _ _ _ _ _ HR.out hO8 (HOK.out _) (by omega) HGO.out).mono ?_
         rintro e w9 ⟨rfl, hG9, hC9⟩
         have HG9 := Lib.hid hG9
         have hC10 := hC8.trans (hC9.mono (by rintro j _ rfl; exact HTb.out))
         clear hG9 hO8 hC8 hC9 hC7 e4 e5
         go_wp2
         go_ret2
         rw [HS2.out, if_neg (by simp)]
         exact ⟨rfl, HG9.out, hC10⟩)
      | (have e4 : (g.done + 1 == (r.counts.length : Int)) = false := HE4.out
         have e5 : ¬ g.done + 1 = (r.counts.length : Int) := by simpa using e4
         have hC8 := hC7
         have hO8 := (HO7.out).congr (g' := g.put r i ⟨xl, xs, xd, xi, xb, false⟩) (by simp only [Gm.put, if_neg e5, HD0.out])
         refine (end_of r _ h0 b _ (n + 1) (n + 1) _ _ _ _ _ _ _ HR.out hO8 (HOK.out _) (by omega) HGO.out).mono ?_
         rintro e w9 ⟨rfl, hG9, hC9⟩
         have HG9 := Lib.hid hG9
         have hC10 := hC8.trans (hC9.mono (by rintro j _ rfl; exact HTb.out))
         clear hG9 hO8 hC8 hC9 hC7 e4 e5
         go_wp2
         go_ret2
         rw [HS2.out, if_neg (by simp)]
         exact ⟨rfl, HG9.out, hC10⟩)
end Go.Proofs.Ytpifdeglhalefaa
