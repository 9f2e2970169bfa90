/-
  The statement LegTurned: walked.
-/
import Derived.Test.YtocnglplhnhllaaSex
import Derived.Test.YtocnglplhnhllaaTub
import Derived.Test.YtocnglplhnhllaaTam
import Derived.Test.YtocnglplhnhllaaKep
import Derived.Test.YtocnglplhnhllaaKno
namespace Go.Proofs.Ytocnglplhnhllaa
open Go.RowKit Go.BigFrame
theorem own_setN {w : World} {base g n cap i size : Nat} {e : TypeId} {xs : List Value} (h : w.ownsRow base e size (.slice (some ⟨g, 0, none⟩) n cap) n xs) (u : Value) : (w.setCell ⟨g, i, none⟩ u).ownsRow base e size (.slice (some ⟨g, 0, none⟩) n cap) n (xs.set i u) := by
  obtain ⟨h1, ⟨e1, _⟩ | ⟨g', cap', cur, e1, h2, h3, h4, h5, h6, h7⟩⟩ := h
  · cases e1
  cases e1
  refine ⟨by simpa using h1, .inr ⟨g, cap, _, rfl, h2, heap_set_same h3, h4, h5, by simpa using h6, ?_⟩⟩
  rw [Array.toList_setIfInBounds, List.take_set, h7]
theorem cnts_set : ∀ (cs : List Cnt) (q : Nat), q < cs.length → ∀ c : Cnt, (((cs.flatMap Cnt.cells).set (q * 3) (.int .i64 c.start)).set (q * 3 + 1) (.int .i64 c.gin)).set (q * 3 + 2) (.int .i64 c.gout) = (cs.set q c).flatMap Cnt.cells
  | [], q, h, _ => absurd h (by simp)
  | x :: r, 0, _, c => by
    simp [List.flatMap_cons, Cnt.cells]
  | x :: r, q + 1, h, c => by
    have ih := cnts_set r q (by simpa using h) c
    rw [List.flatMap_cons, List.set_cons_succ, List.flatMap_cons, ← ih]
    rw [show (q + 1) * 3 = q * 3 + 3 by omega, show q * 3 + 3 + 1 = q * 3 + 1 + 3 by omega, show q * 3 + 3 + 2 = q * 3 + 2 + 3 by omega]
    simp only [Cnt.cells, List.cons_append, List.nil_append, List.set_cons_succ]
theorem lvC_set : ∀ (l : List LV) (us : List Value) (i : Nat) (h : i < l.length), us.length = l.length → ∀ p : Int, (lvC l us).set (i * 2) (.int .i64 p) = lvC (l.set i ⟨p, l[i].beds⟩) us
  | [], _, _, h, _, _ => absurd h (by simp)
  | _ :: _, [], _, _, h, _ => by simp at h
  | x :: l, u :: us, 0, _, _, p => by
    simp [lvC]
  | x :: l, u :: us, i + 1, h, hl, p => by
    have ih := lvC_set l us i (by simpa using h) (by simpa using hl) p
    rw [show (i + 1) * 2 = i * 2 + 2 by omega]
    simp only [lvC, List.set_cons_succ, List.getElem_cons_succ, ih]
theorem visO_setp {w : World} {base g cap n : Nat} {l : List LV} {us : List Value} (hn : n = l.length) (h : VisO w base (.slice (some ⟨g, 0, none⟩) n cap) l us) {i : Nat} (hi : i < l.length) (p : Int) :
    VisO (w.setCell ⟨g, i * 2, none⟩ (.int .i64 p)) base (.slice (some ⟨g, 0, none⟩) n cap) (l.set i ⟨p, l[i].beds⟩) us := by
  subst hn
  have ho := own_setN (i := i * 2) h.outer (.int .i64 p)
  rw [lvC_set l us i hi h.len p] at ho
  refine ⟨by rw [List.length_set]; exact ho, by rw [List.length_set]; exact h.len, fun j hj => ?_⟩
  rw [List.length_set] at hj
  obtain ⟨u, e, o⟩ := h.inner j hj
  refine ⟨u, e, ?_⟩
  have hb : (l.set i ⟨p, l[i].beds⟩)[j]'(by rw [List.length_set]; exact hj) = if i = j then ⟨p, l[i].beds⟩ else l[j] := by rw [List.getElem_set]
  have hb2 : ((l.set i ⟨p, l[i].beds⟩)[j]'(by rw [List.length_set]; exact hj)).beds = l[j].beds := by
    rw [hb]
    split
    · rename_i e; subst e; rfl
    · rfl
  rw [hb2]
  exact own_chg o (Chg.setCell (S := fun k => k = g) (Chg.refl _ _) (p := ⟨g, i * 2, none⟩) (.inr rfl) _) (fun k hk e => own_ne o h.outer (by decide) k hk (by rw [e]; rfl))
/-- While the counts are laid out anew. -/
structure IniC (n b p : Nat) (cs xs : List Cnt) : Prop where
  len : xs.length = n
  at_ : ∀ j, j < p → xs[tau n b j]? = cs[j]?
theorem IniC.step {n b p : Nat} {cs xs : List Cnt} (h : IniC n b p cs xs) (hn : cs.length = n) (hp : p < n) (hb : b < n) : IniC n b (p + 1) cs (xs.set (tau n b p) (cs[p]'(by omega))) := by
  refine ⟨by rw [List.length_set]; exact h.len, fun j hj => ?_⟩
  have ht := tau_lt (b := b) hp
  by_cases e : p = j
  · subst e
    rw [List.getElem?_set_self (by rw [h.len]; exact ht), List.getElem?_eq_getElem]
  · rw [List.getElem?_set_ne (fun e2 => e (tau_inj hp (by omega) hb e2))]
    exact h.at_ j (by omega)
def rotL (n b : Nat) (v : LV) : LV := ⟨(v.player + (b : Int)) % (n : Int), v.beds⟩
theorem rotL_step (f : LV → LV) {l : List LV} {i : Nat} (hi : i < l.length) : ((l.take i).map f ++ l.drop i).set i (f l[i]) = (l.take (i + 1)).map f ++ l.drop (i + 1) := by
  rw [List.drop_eq_getElem_cons hi, List.set_append_right _ _ (by simp; omega), show i - ((l.take i).map f).length = 0 by simp; omega, List.set_cons_zero, List.take_succ_eq_append_getElem hi, List.map_append, List.append_assoc]
  rfl
theorem rotL_get (f : LV → LV) {l : List LV} {i : Nat} (hi : i < l.length) : ((l.take i).map f ++ l.drop i)[i]? = some l[i] := by
  rw [List.drop_eq_getElem_cons hi, List.getElem?_append_right (by simp; omega), show i - ((l.take i).map f).length = 0 by simp; omega]
  rfl
theorem rot_fits {n b : Nat} (hn : 0 < n) (hn8 : n ≤ 8) {l : List LV} (h : ∀ v ∈ l, v.fits) : ∀ v ∈ l.map (rotL n b), v.fits := by
  intro v hv
  obtain ⟨u, hu, rfl⟩ := List.mem_map.1 hv
  have h1 := Int.emod_nonneg (u.player + (b : Int)) (by omega : (n : Int) ≠ 0)
  have h2 := Int.emod_lt_of_pos (u.player + (b : Int)) (by omega : (0 : Int) < n)
  exact ⟨⟨by simp only [rotL]; omega, by simp only [rotL]; omega⟩, (h u hu).2.1, (h u hu).2.2⟩
theorem rotL_len (f : LV → LV) (l : List LV) (i : Nat) : ((l.take i).map f ++ l.drop i).length = l.length := by
  simp
  omega
theorem tal_player {r : Rul} (hr : r.ok = true) {l : List LV} {g : Gm} {E A : List Int} (hT : TalI r l g E A) {i : Nat} (hi : i < l.length) : 0 ≤ l[i].player ∧ l[i].player < r.counts.length := by
  have hp := hT.play
  rw [← List.take_append_drop i l] at hp
  obtain ⟨g1, h1, -⟩ := playL_split r _ _ _ _ _ hp
  obtain ⟨p, x, gi', hV⟩ := TolI.next hr hT (gi := g1) (i := i) h1 hi
  have h2 := hV.player
  have h3 := hV.lt
  omega
theorem rot_ok {b : Nat} {r r' : Rul} (hr : r.ok = true) (h : RotR b r r') : r'.ok = true := by
  have hl := Rul.ok_length hr
  have hb := h.lt
  have hm := Int.emod_nonneg (r.first + (b : Int)) (by omega : (r.counts.length : Int) ≠ 0)
  have hm2 := Int.emod_lt_of_pos (r.first + (b : Int)) (by omega : (0 : Int) < r.counts.length)
  have hc : ∀ c ∈ r'.counts, c.ok = true := by
    intro c hc
    obtain ⟨q, hq, e⟩ := List.mem_iff_getElem.1 hc
    rw [h.len] at hq
    obtain ⟨p, hp, rfl⟩ := tau_onto hq hb
    have h1 := h.cnt p hp
    rw [List.getElem?_eq_getElem (by rw [h.len]; exact hq), List.getElem?_eq_getElem hp] at h1
    rw [← e, Option.some.inj h1]
    exact Rul.ok_count hr (List.getElem_mem hp)
  unfold Rul.ok at hr ⊢
  simp only [Bool.and_eq_true, Bool.not_eq_true', List.any_eq_false, ins_one] at hr ⊢
  rw [h.len, h.first, h.rounds]
  refine ⟨⟨⟨by omega, fun c hcm => by simp [hc c hcm]⟩, by omega⟩, by omega⟩
theorem rot_playS {b : Nat} {r r' : Rul} (hr : r.ok = true) (h : RotR b r r') {l : List LV} {g : Gm} {E A : List Int} (hT : TalI r l g E A) (hl : l.length ≤ 60) : ∃ g', playS r' (l.map (rotL r.counts.length b)) = (g', 0, 0) ∧ RotG r.counts.length b g g' := by
  obtain ⟨g', h1, h2⟩ := rot_play h l _ _ 0 0 g (rot_begin hr h) hT.play
  refine ⟨g', ?_, h2⟩
  unfold playS newE
  rw [rot_ok hr h]
  simp only [Bool.true_eq_false, ↓reduceIte, List.length_map]
  rw [if_neg (by omega)]
  have h1' : playL r' (Gm.begin r') 0 (l.map (rotL r.counts.length b)) = (g', 0, 0) := h1
  simpa using h1'
end Go.Proofs.Ytocnglplhnhllaa
namespace Go.Proofs.Ytocnglplhnhllaa
open Go.RowKit Go.BigFrame
attribute [local go_sem] Later.cell Later.frozen Lat.cell Lat.frozen
theorem wins_le {r : Rul} (hr : r.ok = true) {l : List LV} {g : Gm} {E A : List Int} (hT : TalI r l g E A) : g.winners.length ≤ r.counts.length := by
  have h := winsUp_len g.winners r.counts.length
  rwa [show winsUp g.winners r.counts.length = g.winners from wins_all hr hT] at h
set_option maxRecDepth 100000 in
set_option maxHeartbeats 16000000 in
theorem law_LegTurned (H : Hnd) (sa ba : Option Addr) (sc bc : Nat) (off : List Int) (oa : Option Addr) (oc : Nat) (y0 y1 y2 y3 y4 : Int) (hf : H.fits) (h0 : 0 ≤ y0 ∧ y0 ≤ 255) (h1 : 0 ≤ y1 ∧ y1 ≤ 255) (h2 : 0 ≤ y2 ∧ y2 ≤ 255) (h3 : 0 ≤ y3 ∧ y3 ≤ 255) (h4 : 0 ≤ y4 ∧ y4 ≤ 255) (w : World)
    (hS : CellsAt w .u16 sa H.starts) (hB : CellsAt w .u8 ba H.beds) (hO : CellsAt w .u8 oa off) (hob : ∀ x ∈ off, 0 ≤ x ∧ x ≤ 255) (hol : off.length ≤ 9223372036854775807) :
    Calls Try.prog 11 #[.agg (H.cells sa ba sc bc), .slice oa off.length oc, .agg #[.int .u8 y0, .int .u8 y1, .int .u8 y2, .int .u8 y3, .int .u8 y4]] w fun e w' => e = .returned (.bool true) ∧ Ext w w' := by
  have HS := Lib.hid hS
  have HB := Lib.hid hB
  have HF := Lib.hid hf
  have HO := Lib.hid hO
  have HOB := Lib.hid hob
  have H0 := Lib.hid h0
  have H1 := Lib.hid h1
  have H2 := Lib.hid h2
  have H3 := Lib.hid h3
  have H4 := Lib.hid h4
  obtain ⟨r, hr⟩ : ∃ r, H.rul = r := ⟨_, rfl⟩
  have HR := Lib.hid hr
  clear hS hB hf hO hob h0 h1 h2 h3 h4
  unfold Hnd.cells
  go_enter Try.func11, Try.ntmps11
  go_upto_region 1 with fail
  have hb0 := (Blk.new w #[.slice sa H.starts.length sc, .int .u8 H.gates, .bool H.equal, .int .u8 H.rounds, .int .u8 H.first, .slice ba H.beds.length bc] 78).alloc (.cells #[.int .u8 y0, .int .u8 y1, .int .u8 y2, .int .u8 y3, .int .u8 y4] 87)
  have hbm := Blk.new (w.alloc (.cells #[.slice sa H.starts.length sc, .int .u8 H.gates, .bool H.equal, .int .u8 H.rounds, .int .u8 H.first, .slice ba H.beds.length bc] 78)) #[.int .u8 y0, .int .u8 y1, .int .u8 y2, .int .u8 y3, .int .u8 y4] 87
  have hx0 : Ext w ((w.alloc (.cells #[.slice sa H.starts.length sc, .int .u8 H.gates, .bool H.equal, .int .u8 H.rounds, .int .u8 H.first, .slice ba H.beds.length bc] 78)).alloc (.cells #[.int .u8 y0, .int .u8 y1, .int .u8 y2, .int .u8 y3, .int .u8 y4] 87)) := ((Ext.refl w).alloc _).alloc _
  have hz : (w.alloc (.cells #[.slice sa H.starts.length sc, .int .u8 H.gates, .bool H.equal, .int .u8 H.rounds, .int .u8 H.first, .slice ba H.beds.length bc] 78)).heap.size = w.heap.size + 1 := by simp
  rw [hz] at hbm
  generalize hW0 : (w.alloc (.cells #[.slice sa H.starts.length sc, .int .u8 H.gates, .bool H.equal, .int .u8 H.rounds, .int .u8 H.first, .slice ba H.beds.length bc] 78)).alloc (.cells #[.int .u8 y0, .int .u8 y1, .int .u8 y2, .int .u8 y3, .int .u8 y4] 87) = w0 at *
  have hru := fun W (hx : Ext w0 W) => hand_rules H sa ba sc bc HF.out W (HS.out.ext (hx0.trans hx))
  rw [hr] at hru
  have HRu := Lib.hid hru
  have HTa := Lib.hid (fun W (hx : Ext w0 W) => hand_tale H sa ba sc bc HF.out W (HS.out.ext (hx0.trans hx)) (HB.out.ext (hx0.trans hx)))
  have z0 := hb0.cell 0 (v := .slice sa H.starts.length sc) rfl
  have z1 := hb0.cell 1 (v := .int .u8 H.gates) rfl
  have z2 := hb0.cell 2 (v := .bool H.equal) rfl
  have z3 := hb0.cell 3 (v := .int .u8 H.rounds) rfl
  have z4 := hb0.cell 4 (v := .int .u8 H.first) rfl
  have z5 := hb0.cell 5 (v := .slice ba H.beds.length bc) rfl
  have hwl := hb0.lt
  have hwn : ¬ (w0.heap.size ≤ w.heap.size) := by omega
  have HBM := Lib.hid hbm
  obtain ⟨km, hkm⟩ : ∃ km, km = w.heap.size + 1 := ⟨_, rfl⟩
  rw [← hkm] at HBM ⊢
  have HX0 := Lib.hid hx0
  clear hW0 hb0 hru hr hx0 hz hbm hkm
  refine wp_region_calls (by kernel_rfl) [.no, .of (RulS r) (rulW r) (rulW_shape r), .no, .of TalS talW talW_shape, .ptr, .ptr, .any, .any] w0.heap.size (fun c => max c.1.2.heap.size c.2.2.heap.size)
    (fun (c : (Nat × World) × (Nat × World)) L u => [bif L 1 then Res.snap c.1 else Res.none, bif L 1 then Res.pure (Ext w0 c.1.2 ∧ w0.heap.size ≤ c.1.1 ∧ RulV r (u 1) c.1.1 c.1.2) else Res.none, bif L 3 then Res.snap c.2 else Res.none, bif L 3 then Res.pure (Ext w0 c.2.2 ∧ w0.heap.size ≤ c.2.1 ∧ TalV H (u 3) c.2.1 c.2.2) else Res.none,
      bif L 4 then Res.blk (ptrAt (u 4)) (bif L 6 then #[aggAt 0 (u 1), aggAt 1 (u 1), aggAt 2 (u 1), aggAt 3 (u 1)] else #[.slice none 0 0, .int .i64 0, .int .i64 0, .bool false]) else Res.none, bif L 5 then Res.blk (ptrAt (u 5)) (bif L 7 then #[aggAt 0 (u 3), aggAt 1 (u 3), aggAt 2 (u 3), aggAt 3 (u 3), aggAt 4 (u 3), aggAt 5 (u 3), aggAt 6 (u 3), aggAt 7 (u 3)] else #[.slice none 0 0, .slice none 0 0, .slice none 0 0, .slice none 0 0, .slice none 0 0, .slice none 0 0, .int .i64 0, .bool false]) else Res.none])
    ((0, w0), (0, w0)) (by kernel_rfl) (Nat.le_of_ble_eq_true rfl) (fun c L L' u hh => by simp only [hh 1 rfl, hh 3 rfl, hh 4 rfl, hh 5 rfl, hh 6 rfl, hh 7 rfl]) (by simp) (fun _ => Frm.nones _ 6 w0) ?_
  intro T hT hne u hu
  obtain ⟨a1, c1, u1⟩ : RulS r (u 1) := hu 1 rfl
  obtain ⟨a30, a31, a32, a33, a34, a35, n30, n31, n32, n33, n34, n35, c30, c31, c32, c33, c34, c35, gr3, ov3, u3⟩ : TalS (u 3) := hu 3 rfl
  obtain ⟨k4, u4⟩ : ∃ k, u 4 = .pointer (some ⟨k, 0, none⟩) := hu 4 rfl
  obtain ⟨k5, u5⟩ : ∃ k, u 5 = .pointer (some ⟨k, 0, none⟩) := hu 5 rfl
  clear hu
  refine lx_next 1 (by rfl) (by decide) ?_
  dsimp only [List.take, List.drop]
  repeat (go_big_quiet_step (fail))
  refine wpQuiet_nil ?_
  refine lx_loud (by rfl) (by kernel_rfl) ?_ (fun K hK => ?_)
  · intro L w3 hL hd hcl hC hs
    obtain ⟨x, rfl⟩ := hC
    obtain ⟨c, hmc, hs⟩ := hs
    have hzs := x.size
    have h6 := hcl.off hL 40 6 (by kernel_rfl)
    simp only [hL, h6, cond_false] at hs
    have hX : Ext w0 x.world := Chg.to_ext (Ext.refl w0) x.chg (by rintro i ⟨_, h⟩; exact h)
    go_wp2_with fail
    refine (HRu.out _ hX).mono ?_
    rintro e w' ⟨a, cc', rfl, hO, hC, hx⟩
    have hsz' := hx.size
    go_wp2
    exact lik_call x (Nat.le_refl _) ⟨_, _, rfl⟩ hs 0 1 (by decide) rfl rfl hx ((x.world.heap.size, w'), c.2) (by show max w'.heap.size c.2.2.heap.size ≤ w'.heap.size; have hmc2 : max c.1.2.heap.size c.2.2.heap.size ≤ x.world.heap.size := hmc; omega) (φ := Ext w0 w' ∧ w0.heap.size ≤ x.world.heap.size ∧ RulV r _ x.world.heap.size w') ⟨hX.trans hx, hzs, ⟨_, _, rfl, hO⟩⟩ (by first | (simp [upd, updv, h6, hL]; done) | (simp [upd, updv, h6, hL]; rfl))
  rw [u1]
  go_simp
  with_reducible refine hK _ ?_
  clear hK K
  refine lx_next 1 (by rfl) (by decide) ?_
  dsimp only [List.take, List.drop]
  repeat (go_big_quiet_step (fail))
  refine wpQuiet_nil ?_
  refine lx_loud (by rfl) (by kernel_rfl) ?_ (fun K hK => ?_)
  · intro L w3 hL hd hcl hC hs
    obtain ⟨x, rfl⟩ := hC
    obtain ⟨c, hmc, hs⟩ := hs
    have hzs := x.size
    have h7 := hcl.off hL 40 7 (by kernel_rfl)
    simp only [hL, h7, cond_false] at hs
    have hX : Ext w0 x.world := Chg.to_ext (Ext.refl w0) x.chg (by rintro i ⟨_, h⟩; exact h)
    go_wp2_with fail
    refine (HTa.out _ hX).mono ?_
    rintro e w' ⟨l, us, g, E, A, vv, lv, tv, iv, ev, av, rfl, hP, hx⟩
    have hsz' := hx.size
    have hV : TalV H (.agg #[vv, lv, tv, iv, ev, av, .int .i64 g.round, .bool g.over]) x.world.heap.size w' := ⟨l, us, g, E, A, vv, lv, tv, iv, ev, av, rfl, hP⟩
    have hsh := hV.shape
    have HV' := Lib.hid hV
    have HSh := Lib.hid hsh
    clear hV hsh hP
    go_wp2
    exact lik_call x (Nat.le_refl _) HSh.out hs 2 3 (by decide) rfl rfl hx (c.1, (x.world.heap.size, w')) (by show max c.1.2.heap.size w'.heap.size ≤ w'.heap.size; have hmc2 : max c.1.2.heap.size c.2.2.heap.size ≤ x.world.heap.size := hmc; omega) (φ := Ext w0 w' ∧ w0.heap.size ≤ x.world.heap.size ∧ TalV H _ x.world.heap.size w') ⟨hX.trans hx, hzs, HV'.out⟩ (by first | (simp [upd, updv, h7, hL]; done) | (simp [upd, updv, h7, hL]; rfl))
  rw [u3]
  go_simp
  with_reducible refine hK _ ?_
  clear hK K
  refine lx_loud (by rfl) (by kernel_rfl) ?_ (fun K hK => ?_)
  · intro L w3 hL hd hcl hC hs
    obtain ⟨x, rfl⟩ := hC
    obtain ⟨c, hmc, hs⟩ := hs
    have hzs := x.size
    have h6 := hcl.off hL 40 6 (by kernel_rfl)
    simp only [hL, h6, cond_false] at hs
    go_wp2
    exact lik_set x (Nat.le_refl _) ⟨_, rfl⟩ hs 4 (r' := Res.blk x.world.heap.size #[.slice none 0 0, .int .i64 0, .int .i64 0, .bool false]) rfl (((Ext.refl x.world).alloc _).chg _) (Blk.new _ _ _) (fun k hk => .inr (by rw [show k = x.world.heap.size from hk]; simp)) c hmc (by first | (simp [upd, updv, h6, hL]; done) | (simp [upd, updv, h6, hL]; rfl))
  rw [u4]
  go_simp
  with_reducible refine hK _ ?_
  clear hK K
  refine lx_loud (by rfl) (by kernel_rfl) ?_ (fun K hK => ?_)
  · intro L w3 hL hd hcl hC hs
    obtain ⟨x, rfl⟩ := hC
    obtain ⟨c, hmc, hs⟩ := hs
    have hzs := x.size
    have h7 := hcl.off hL 40 7 (by kernel_rfl)
    simp only [hL, h7, cond_false] at hs
    go_wp2
    exact lik_set x (Nat.le_refl _) ⟨_, rfl⟩ hs 5 (r' := Res.blk x.world.heap.size #[.slice none 0 0, .slice none 0 0, .slice none 0 0, .slice none 0 0, .slice none 0 0, .slice none 0 0, .int .i64 0, .bool false]) rfl (((Ext.refl x.world).alloc _).chg _) (Blk.new _ _ _) (fun k hk => .inr (by rw [show k = x.world.heap.size from hk]; simp)) c hmc (by first | (simp [upd, updv, h7, hL]; done) | (simp [upd, updv, h7, hL]; rfl))
  rw [u5]
  go_simp
  with_reducible refine hK _ ?_
  clear hK K
  refine lx_loud (by rfl) (by kernel_rfl) ?_ (fun K hK => ?_)
  · intro L w3 hL hd hcl hC hs
    obtain ⟨x, rfl⟩ := hC
    obtain ⟨c, hmc, hs⟩ := hs
    have hzs := x.size
    have h4 := hd 4 (by kernel_rfl)
    have h1 := hd 1 (by kernel_rfl)
    simp only [hL, h4, h1, cond_true, cond_false] at hs
    rw [u4] at hs
    have hb : Blk x.world k4 #[.slice none 0 0, .int .i64 0, .int .i64 0, .bool false] := hs.get 4 rfl
    have hlt := hb.lt
    have q0 := hb.cell 0 (v := .slice none 0 0) rfl
    have f0 := hb.frozen 0
    have q1 := hb.cell 1 (v := .int .i64 0) rfl
    have f1 := hb.frozen 1
    have q2 := hb.cell 2 (v := .int .i64 0) rfl
    have f2 := hb.frozen 2
    have q3 := hb.cell 3 (v := .bool false) rfl
    have f3 := hb.frozen 3
    go_wp2
    exact lik_set x (Nat.le_refl _) trivial hs 4 rfl (four_chg (fun k => k = k4) _ rfl _ _ _ _ ) (r' := Res.blk k4 #[.slice a1 r.counts.length c1, .int .i64 r.first, .int .i64 r.rounds, .bool r.equal]) (four_set hb _ _ _ _ ) (fun _ hk => .inl hk) c hmc (by first | (simp [upd, updv, h4, h1, hL, u4, u1, aggAt, ptrAt]; done) | (simp [upd, updv, h4, h1, hL, u4, u1, aggAt, ptrAt]; rfl))
  go_simp
  with_reducible refine hK _ ?_
  clear hK K
  refine lx_loud (by rfl) (by kernel_rfl) ?_ (fun K hK => ?_)
  · intro L w3 hL hd hcl hC hs
    obtain ⟨x, rfl⟩ := hC
    obtain ⟨c, hmc, hs⟩ := hs
    have hzs := x.size
    have h5 := hd 5 (by kernel_rfl)
    have h3 := hd 3 (by kernel_rfl)
    simp only [hL, h5, h3, cond_true, cond_false] at hs
    rw [u5] at hs
    have hb : Blk x.world k5 #[.slice none 0 0, .slice none 0 0, .slice none 0 0, .slice none 0 0, .slice none 0 0, .slice none 0 0, .int .i64 0, .bool false] := hs.get 5 rfl
    have hlt := hb.lt
    have q0 := hb.cell 0 (v := .slice none 0 0) rfl
    have f0 := hb.frozen 0
    have q1 := hb.cell 1 (v := .slice none 0 0) rfl
    have f1 := hb.frozen 1
    have q2 := hb.cell 2 (v := .slice none 0 0) rfl
    have f2 := hb.frozen 2
    have q3 := hb.cell 3 (v := .slice none 0 0) rfl
    have f3 := hb.frozen 3
    have q4 := hb.cell 4 (v := .slice none 0 0) rfl
    have f4 := hb.frozen 4
    have q5 := hb.cell 5 (v := .slice none 0 0) rfl
    have f5 := hb.frozen 5
    have q6 := hb.cell 6 (v := .int .i64 0) rfl
    have f6 := hb.frozen 6
    have q7 := hb.cell 7 (v := .bool false) rfl
    have f7 := hb.frozen 7
    go_wp2
    exact lik_set x (Nat.le_refl _) trivial hs 5 rfl (eight_chg (fun k => k = k5) _ rfl _ _ _ _ _ _ _ _ ) (r' := Res.blk k5 #[.slice a30 n30 c30, .slice a31 n31 c31, .slice a32 n32 c32, .slice a33 n33 c33, .slice a34 n34 c34, .slice a35 n35 c35, .int .i64 gr3, .bool ov3]) (eight_set hb _ _ _ _ _ _ _ _ ) (fun _ hk => .inl hk) c hmc (by first | (simp [upd, updv, h5, h3, hL, u5, u3, aggAt, ptrAt]; done) | (simp [upd, updv, h5, h3, hL, u5, u3, aggAt, ptrAt]; rfl))
  go_simp
  with_reducible refine hK _ ?_
  clear hK K
  refine lx_nil ?_
  intro x hs
  obtain ⟨c, hmc, hs⟩ := hs
  rw [u1, u3, u4, u5] at hs
  have hX : Ext w0 x.world := Chg.to_ext (Ext.refl w0) x.chg (by rintro i ⟨_, h⟩; exact h)
  have hp1 : Ext w0 c.1.2 ∧ w0.heap.size ≤ c.1.1 ∧ RulV r (.agg #[.slice a1 r.counts.length c1, .int .i64 r.first, .int .i64 r.rounds, .bool r.equal]) c.1.1 c.1.2 := hs.get 1 rfl
  have hp3 : Ext w0 c.2.2 ∧ w0.heap.size ≤ c.2.1 ∧ TalV H (.agg #[.slice a30 n30 c30, .slice a31 n31 c31, .slice a32 n32 c32, .slice a33 n33 c33, .slice a34 n34 c34, .slice a35 n35 c35, .int .i64 gr3, .bool ov3]) c.2.1 c.2.2 := hs.get 3 rfl
  have hmc' : max c.1.2.heap.size c.2.2.heap.size ≤ x.world.heap.size := hmc
  have hr1 := hp1.2.2.chg (snap_chg (hs.get 0 rfl) hp1.1 hX (by omega)) (fun k hk => hk.2)
  have ht1 := hp3.2.2.chg (snap_chg (hs.get 2 rfl) hp3.1 hX (by omega)) (fun k hk => hk.2)
  have hb4 : Blk x.world k4 #[.slice a1 r.counts.length c1, .int .i64 r.first, .int .i64 r.rounds, .bool r.equal] := hs.get 4 rfl
  have hb5 : Blk x.world k5 #[.slice a30 n30 c30, .slice a31 n31 c31, .slice a32 n32 c32, .slice a33 n33 c33, .slice a34 n34 c34, .slice a35 n35 c35, .int .i64 gr3, .bool ov3] := hs.get 5 rfl
  have hs1l := hp1.2.1
  have hs3l := hp3.2.1
  generalize c.1.1 = s1 at *
  generalize c.2.1 = s3 at *
  clear hs hp1 hp3 hmc hmc' hT hne u1 u3 u4 u5
  generalize x.world = w1 at *
  clear x z0 z1 z2 z3 z4 z5 hwn
  obtain ⟨hCr, hCn⟩ := hr1.reads
  obtain ⟨l, g, E, A, hT⟩ := ht1.reads
  have HT := Lib.hid hT
  have HCr := Lib.hid hCr
  have HCn := Lib.hid hCn
  have HX01 := Lib.hid hX
  have HX1 := Lib.hid (HX0.out.trans hX)
  have HB4 := Lib.hid hb4
  have HB5 := Lib.hid hb5
  have HBM1 := Lib.hid (HBM.out.ext hX)
  have hHr : H.counts = r.counts := by rw [← HR.out]; rfl
  have m0 := hb4.cell 0 (v := .slice a1 r.counts.length c1) rfl
  have m1 := hb4.cell 1 (v := .int .i64 r.first) rfl
  have m2 := hb4.cell 2 (v := .int .i64 r.rounds) rfl
  have m3 := hb4.cell 3 (v := .bool r.equal) rfl
  have d0 := hb5.cell 0 (v := .slice a30 n30 c30) rfl
  have e0 := HBM1.out.cell 0 (v := .int .u8 y0) rfl
  have hml := HBM1.out.lt
  have HHr := Lib.hid hHr
  have hk4l := hb4.lt
  have hk5l := hb5.lt
  clear hCr hCn hT hr1 ht1 hX hb4 hb5 hHr hs1l hs3l HRu HTa hwl HBM
  by_cases hn0 : r.counts.length = 0
  · rw [hn0] at m0
    go_wp2_with fail
    refine (law_known _).mono ?_
    rintro e w3 ⟨rfl, hx3⟩
    go_wp2
    go_ret
    exact ⟨rfl, HX1.out.trans hx3⟩
  have b0 : ((r.counts.length : Int) == 0) = false := by simp; intro h; exact hn0 (by simp [h])
  by_cases ho : 300 < off.length
  · go_wp2_with fail
    refine (law_known _).mono ?_
    rintro e w3 ⟨rfl, hx3⟩
    go_wp2
    go_ret
    exact ⟨rfl, HX1.out.trans hx3⟩
  have hI := HT.out.tale (by rw [HHr.out]; omega)
  have hok := Hnd.rul_ok HF.out (by rw [HHr.out]; omega)
  rw [HR.out] at hI hok
  have HI := Lib.hid hI
  have HOK := Lib.hid hok
  have hlen := HT.out.len
  have hsh := HT.out.short
  subst hlen
  have hrl := Rul.ok_length hok
  have hrl8 := hrl.2
  have hfi := Rul.ok_first hok
  have hfi0 := hfi.1
  have hfi1 := hfi.2
  have hnew : newE r l.length = 0 := newE_ok hok (by omega)
  have hps : playS r l = (g, 0, 0) := by
    unfold playS
    rw [if_neg (by simpa using hnew)]
    exact hI.play
  have HPS := Lib.hid hps
  have HFI := Lib.hid (fun v (hv : v ∈ l) => (hI.fits v hv).1)
  have hlb : ∀ v ∈ l, v.beds.length ≤ 1000000 := fun v hv => by have := (hI.fits v hv).2.1.2; omega
  have HLB := Lib.hid hlb
  have hwin : g.winners.length ≤ 8 := by
    have h := wins_le hok hI
    omega
  have HRu := Lib.hid (fun W (hx : Ext w1 W) => law_rules r a1 c1 W (HCr.out.ext hx) (by omega) HCn.out)
  have HV0 := Lib.hid (fun W (hx : Ext w1 W) => law_visits l a30 c30 W (HT.out.vis.ext hx) (by omega) hlb)
  have hm4n : ¬ (w1.heap.size ≤ k4) := by omega
  have hm5n : ¬ (w1.heap.size ≤ k5) := by omega
  have hy0 := H0.out.1
  obtain ⟨by_, hby⟩ : ∃ b : Nat, y0 % (r.counts.length : Int) = (b : Int) := ⟨(y0 % (r.counts.length : Int)).toNat, by have := Int.emod_nonneg y0 (by omega : (r.counts.length : Int) ≠ 0); omega⟩
  have hbyn : by_ < r.counts.length := by have := Int.emod_lt_of_pos y0 (by omega : (0 : Int) < r.counts.length); omega
  have HBY := Lib.hid hby
  have hy1 := H0.out.2
  clear hI hok hsh hrl hfi hnew hps hlb hby
  go_upto_region 6 with fail
  rw [HBY.out]
  refine wp_region_calls (by kernel_rfl) [.no, .of (RulS r) (rulW r) (rulW_shape r), .no, .no, .slc l.length, .ptr, .any] w1.heap.size (fun c => max c.1.2.heap.size c.2.2.heap.size)
    (fun (c : (Nat × World) × (Nat × World)) L u => [bif L 1 then Res.snap c.1 else Res.none, bif L 1 then Res.pure (Ext w1 c.1.2 ∧ w1.heap.size ≤ c.1.1 ∧ RulV r (u 1) c.1.1 c.1.2) else Res.none, bif L 4 then Res.snap c.2 else Res.none, bif L 4 then Res.pure (Ext w1 c.2.2 ∧ w1.heap.size ≤ c.2.1 ∧ VisV l (u 4) c.2.1 c.2.2) else Res.none,
      bif L 5 then Res.blk (ptrAt (u 5)) (bif L 6 then #[aggAt 0 (u 1), aggAt 1 (u 1), aggAt 2 (u 1), aggAt 3 (u 1)] else #[.slice none 0 0, .int .i64 0, .int .i64 0, .bool false]) else Res.none])
    ((0, w1), (0, w1)) (by kernel_rfl) (Nat.le_of_ble_eq_true rfl) (fun c L L' u hh => by simp only [hh 1 rfl, hh 4 rfl, hh 5 rfl, hh 6 rfl]) (by simp) (fun _ => Frm.nones _ 5 w1) ?_
  intro T hT hne u hu
  obtain ⟨a21, c21, u1⟩ : RulS r (u 1) := hu 1 rfl
  obtain ⟨a24, c24, u4⟩ : ∃ a c, u 4 = .slice a l.length c := hu 4 rfl
  obtain ⟨k11, u5⟩ : ∃ k, u 5 = .pointer (some ⟨k, 0, none⟩) := hu 5 rfl
  clear hu
  refine lx_next 1 (by rfl) (by decide) ?_
  dsimp only [List.take, List.drop]
  repeat (go_big_quiet_step (fail))
  refine wpQuiet_nil ?_
  refine lx_loud (by rfl) (by kernel_rfl) ?_ (fun K hK => ?_)
  · intro L w3 hL hd hcl hC hs
    obtain ⟨x, rfl⟩ := hC
    obtain ⟨c, hmc, hs⟩ := hs
    have hzs := x.size
    have h6 := hcl.off hL 40 6 (by kernel_rfl)
    simp only [hL, h6, cond_false] at hs
    have hX : Ext w1 x.world := Chg.to_ext (Ext.refl w1) x.chg (by rintro i ⟨_, h⟩; exact h)
    go_wp2_with fail
    refine (HRu.out _ hX).mono ?_
    rintro e w' ⟨a, cc', rfl, hO, hC, hx⟩
    have hsz' := hx.size
    have hmc2 : max c.1.2.heap.size c.2.2.heap.size ≤ x.world.heap.size := hmc
    go_wp2
    exact lik_call x (Nat.le_refl _) ⟨_, _, rfl⟩ hs 0 1 (by decide) rfl rfl hx ((x.world.heap.size, w'), c.2) (by show max w'.heap.size c.2.2.heap.size ≤ w'.heap.size; omega) (φ := Ext w1 w' ∧ w1.heap.size ≤ x.world.heap.size ∧ RulV r _ x.world.heap.size w') ⟨hX.trans hx, hzs, ⟨_, _, rfl, hO⟩⟩ (by first | (simp [upd, updv, h6, hL]; done) | (simp [upd, updv, h6, hL]; rfl))
  rw [u1]
  go_simp
  with_reducible refine hK _ ?_
  clear hK K
  refine lx_next 2 (by rfl) (by decide) ?_
  dsimp only [List.take, List.drop]
  repeat (go_big_quiet_step (fail))
  refine wpQuiet_nil ?_
  refine lx_loud (by rfl) (by kernel_rfl) ?_ (fun K hK => ?_)
  · intro L w3 hL hd hcl hC hs
    obtain ⟨x, rfl⟩ := hC
    obtain ⟨c, hmc, hs⟩ := hs
    have hzs := x.size
    simp only [hL, cond_false] at hs
    have hX : Ext w1 x.world := Chg.to_ext (Ext.refl w1) x.chg (by rintro i ⟨_, h⟩; exact h)
    go_wp2_with fail
    refine (HV0.out _ hX).mono ?_
    rintro e w' ⟨v, us, rfl, hO, hx⟩
    have hsz' := hx.size
    have hmc2 : max c.1.2.heap.size c.2.2.heap.size ≤ x.world.heap.size := hmc
    have HO := Lib.hid hO
    have hsh := own_shape hO.outer
    have HSh := Lib.hid hsh
    clear hO hsh
    go_wp2
    exact lik_call x (Nat.le_refl _) HSh.out hs 2 3 (by decide) rfl rfl hx (c.1, (x.world.heap.size, w')) (by show max c.1.2.heap.size w'.heap.size ≤ w'.heap.size; omega) (φ := Ext w1 w' ∧ w1.heap.size ≤ x.world.heap.size ∧ VisV l _ x.world.heap.size w') ⟨hX.trans hx, hzs, ⟨_, HO.out⟩⟩ (by first | (simp [upd, updv, hL]; done) | (simp [upd, updv, hL]; rfl))
  rw [u4]
  go_simp
  with_reducible refine hK _ ?_
  clear hK K
  refine lx_loud (by rfl) (by kernel_rfl) ?_ (fun K hK => ?_)
  · intro L w3 hL hd hcl hC hs
    obtain ⟨x, rfl⟩ := hC
    obtain ⟨c, hmc, hs⟩ := hs
    have hzs := x.size
    have h6 := hcl.off hL 40 6 (by kernel_rfl)
    simp only [hL, h6, cond_false] at hs
    go_wp2
    exact lik_set x (Nat.le_refl _) ⟨_, rfl⟩ hs 4 (r' := Res.blk x.world.heap.size #[.slice none 0 0, .int .i64 0, .int .i64 0, .bool false]) rfl (((Ext.refl x.world).alloc _).chg _) (Blk.new _ _ _) (fun k hk => .inr (by rw [show k = x.world.heap.size from hk]; simp)) c hmc (by first | (simp [upd, updv, h6, hL]; done) | (simp [upd, updv, h6, hL]; rfl))
  rw [u5]
  go_simp
  with_reducible refine hK _ ?_
  clear hK K
  refine lx_loud (by rfl) (by kernel_rfl) ?_ (fun K hK => ?_)
  · intro L w3 hL hd hcl hC hs
    obtain ⟨x, rfl⟩ := hC
    obtain ⟨c, hmc, hs⟩ := hs
    have hzs := x.size
    have h5 := hd 5 (by kernel_rfl)
    have h1 := hd 1 (by kernel_rfl)
    simp only [hL, h5, h1, cond_true, cond_false] at hs
    rw [u5] at hs
    have hb : Blk x.world k11 #[.slice none 0 0, .int .i64 0, .int .i64 0, .bool false] := hs.get 4 rfl
    have hlt := hb.lt
    have q0 := hb.cell 0 (v := .slice none 0 0) rfl
    have f0 := hb.frozen 0
    have q1 := hb.cell 1 (v := .int .i64 0) rfl
    have f1 := hb.frozen 1
    have q2 := hb.cell 2 (v := .int .i64 0) rfl
    have f2 := hb.frozen 2
    have q3 := hb.cell 3 (v := .bool false) rfl
    have f3 := hb.frozen 3
    go_wp2
    exact lik_set x (Nat.le_refl _) trivial hs 4 rfl (four_chg (fun k => k = k11) _ rfl _ _ _ _) (r' := Res.blk k11 #[.slice a21 r.counts.length c21, .int .i64 r.first, .int .i64 r.rounds, .bool r.equal]) (four_set hb _ _ _ _) (fun _ hk => .inl hk) c hmc (by first | (simp [upd, updv, h5, h1, hL, u5, u1, aggAt, ptrAt]; done) | (simp [upd, updv, h5, h1, hL, u5, u1, aggAt, ptrAt]; rfl))
  go_simp
  with_reducible refine hK _ ?_
  clear hK K
  refine lx_next 1 (by rfl) (by decide) ?_
  dsimp only [List.take, List.drop]
  repeat (go_big_quiet_step (fail))
  refine wpQuiet_nil ?_
  refine lx_nil ?_
  intro x hs
  obtain ⟨c, hmc, hs⟩ := hs
  rw [u1, u4, u5] at hs
  have hX : Ext w1 x.world := Chg.to_ext (Ext.refl w1) x.chg (by rintro i ⟨_, h⟩; exact h)
  have hmc2 : max c.1.2.heap.size c.2.2.heap.size ≤ x.world.heap.size := hmc
  have hp1 : Ext w1 c.1.2 ∧ w1.heap.size ≤ c.1.1 ∧ RulV r (.agg #[.slice a21 r.counts.length c21, .int .i64 r.first, .int .i64 r.rounds, .bool r.equal]) c.1.1 c.1.2 := hs.get 1 rfl
  have hp4 : Ext w1 c.2.2 ∧ w1.heap.size ≤ c.2.1 ∧ VisV l (.slice a24 l.length c24) c.2.1 c.2.2 := hs.get 3 rfl
  obtain ⟨a22, c22, ea, hO1⟩ := hp1.2.2.chg (snap_chg (hs.get 0 rfl) hp1.1 hX (by omega)) (fun k hk => hk.2)
  obtain ⟨a23, c23, eb, hO1'⟩ := hp1.2.2
  simp only [Value.agg.injEq, Array.mk.injEq, List.cons.injEq, Value.slice.injEq, and_true, true_and] at ea eb
  obtain ⟨rfl, rfl⟩ := ea
  obtain ⟨rfl, rfl⟩ := eb
  obtain ⟨us, hV⟩ := hp4.2.2
  have hV4 := hV.chg (snap_chg (hs.get 2 rfl) hp4.1 hX (by omega)) (fun k hk hq => absurd (show k < c.2.1 from hq.2) (Nat.not_lt.2 (own_lt hV.outer k hk).1)) (fun u hu k hk hq => absurd (show k < c.2.1 from hq.2) (Nat.not_lt.2 (hV.lts u hu k hk).1))
  have hlt1 := own_lt hO1'
  have hlt4 := own_lt hV.outer
  have hlt5 := hV.lts
  have hs1 := hs.set 0 rfl (Chg.refl _ x.world) (r' := Res.own w1.heap.size 24 3 (.slice a21 r.counts.length c21) r.counts.length (r.counts.flatMap Cnt.cells)) (own_mono hO1 hp1.2.1) (fun k hk => .inl (hlt1 k hk)) (Nat.le_trans (Nat.le_refl _) hX.size)
  have hs2 := hs1.set 2 rfl (Chg.refl _ x.world) (r' := Res.vis w1.heap.size (.slice a24 l.length c24) l us) (hV4.mono hp4.2.1) (fun k hk => .inl (by rcases hk with hk | ⟨u, hu, hk⟩; exact hlt4 k hk; exact hlt5 u hu k hk)) (Nat.le_trans (Nat.le_refl _) hX.size)
  have hs3 := (hs2.drop 1).drop 3
  have HF0 : Hid (Frm w1.heap.size [Res.own w1.heap.size 24 3 (.slice a21 r.counts.length c21) r.counts.length (r.counts.flatMap Cnt.cells), Res.none, Res.vis w1.heap.size (.slice a24 l.length c24) l us, Res.none, Res.blk k11 #[.slice a21 r.counts.length c21, .int .i64 r.first, .int .i64 r.rounds, .bool r.equal]] x.world) := Lib.hid hs3
  clear hs hs1 hs2 hs3 hmc hmc2 hp1 hp4 hO1 hO1' hV hV4 hlt1 hlt4 hlt5 hT hne u1 u4 u5
  generalize x.world = w2 at *
  clear x
  obtain ⟨gx, cx', egx, hgx1, hgx2⟩ := own_pos (HF0.out.get 0 rfl : World.ownsRow _ _ _ _ _ _ _) (by omega)
  injection egx with eg1 eg2 eg3
  subst eg1
  clear eg2 eg3
  obtain ⟨B, hB⟩ : ∃ B, B = w1.heap.size := ⟨_, rfl⟩
  rw [← hB] at HF0 hgx1
  have hB1 : B ≤ w1.heap.size := by omega
  have hB2 : w1.heap.size ≤ B := by omega
  have hX2 := hX
  replace m0 := hX.cell m0
  replace m1 := hX.cell m1
  have hsz2 := hX.size
  have hk4n : ¬ (B ≤ k4) := by omega
  replace hk4l : k4 < w2.heap.size := by omega
  have HX2 := Lib.hid hX
  clear hB hX hX2 m2 m3 d0 e0 hml hm4n hm5n hk5l HRu HV0 hy0 hy1 hgx2
  go_upto_block 0 with fail
  go_cut [13] from 59 to 76 (fun _ wx => ∃ xs, IniC r.counts.length by_ r.counts.length r.counts xs ∧ Frm B [Res.own B 24 3 (.slice (some ⟨gx, 0, none⟩) r.counts.length c21) r.counts.length (xs.flatMap Cnt.cells), Res.none, Res.vis B (.slice a24 l.length c24) l us, Res.none, Res.blk k11 #[.slice (some ⟨gx, 0, none⟩) r.counts.length c21, .int .i64 r.first, .int .i64 r.rounds, .bool r.equal]] wx ∧ Ext w1 wx)
  case first =>
    go_wp2_with fail
    go_loopw [13] (fun pp wr => ∃ (p : Nat) (xs : List Cnt), p ≤ r.counts.length ∧ pp = .int .i64 p ∧ IniC r.counts.length by_ p r.counts xs ∧ Frm B [Res.own B 24 3 (.slice (some ⟨gx, 0, none⟩) r.counts.length c21) r.counts.length (xs.flatMap Cnt.cells), Res.none, Res.vis B (.slice a24 l.length c24) l us, Res.none, Res.blk k11 #[.slice (some ⟨gx, 0, none⟩) r.counts.length c21, .int .i64 r.first, .int .i64 r.rounds, .bool r.equal]] wr ∧ Ext w1 wr) (fun pp _ => r.counts.length - (intOf pp).toNat)
    case atStart => exact ⟨0, r.counts, Nat.zero_le _, rfl, ⟨rfl, fun j hj => absurd hj (by omega)⟩, HF0.out, HX2.out⟩
    case round =>
      obtain ⟨p, xs, hp, rfl, hS, hF, hx⟩ := hrel
      have hsz := hx.size
      replace m0 := hx.cell (HB4.out.cell 0 (v := .slice a1 r.counts.length c1) rfl)
      replace m1 := hx.cell (HB4.out.cell 1 (v := .int .i64 r.first) rfl)
      replace hk4l : k4 < wr.heap.size := by omega
      have HS' := Lib.hid hS
      have HF1 := Lib.hid hF
      have hlo : B ≤ wr.heap.size := by omega
      clear hS hF HF0
      by_cases hlt : p < r.counts.length
      · have htq := tau_lt (b := by_) hlt
        have hti := (tau_int (n := r.counts.length) (b := by_) (p := p)).symm
        obtain ⟨cb, co, eca, z0, z1, z2⟩ := HCr.out p hlt
        subst eca
        have hst := HS'.out.step rfl hlt hbyn
        have hcl1 := lt_of_cell z0
        simp only at hcl1
        have hcn : ¬ (B ≤ cb) := by omega
        replace z0 := hx.cell z0
        replace z1 := hx.cell z1
        replace z2 := hx.cell z2
        have hcl : cb < wr.heap.size := by omega
        have HST := Lib.hid hst
        clear hst hcl1
        generalize r.counts[p] = ct at *
        obtain ⟨cs, cg, cgo⟩ := ct
        simp only at z0 z1 z2
        generalize tau r.counts.length by_ p = tq at *
        have hxl : tq < xs.length := by rw [HS'.out.len]; exact htq
        go_upto_region 10 with fail
        refine wp_region_sep (by kernel_rfl) [.no, .val (.slice (some ⟨gx, 0, none⟩) r.counts.length c21), .no, .no, .no, .no, .no, .no, .no, .no, .no, .no, .no, .any] B
          (fun L u => [Res.own B 24 3 (.slice (some ⟨gx, 0, none⟩) r.counts.length c21) r.counts.length (bif L 13 then ((((xs.flatMap Cnt.cells).set (tq * 3) (.int .i64 cs)).set (tq * 3 + 1) (.int .i64 cg)).set (tq * 3 + 2) (.int .i64 cgo)) else (xs.flatMap Cnt.cells)), Res.none, Res.vis B (.slice a24 l.length c24) l us, Res.none, Res.blk k11 #[.slice (some ⟨gx, 0, none⟩) r.counts.length c21, .int .i64 r.first, .int .i64 r.rounds, .bool r.equal]])
          (by kernel_rfl) (Nat.le_of_ble_eq_true rfl) (fun L L' u hh => by simp only [hh 13 rfl]) (fun _ => HF1.out) ?_
        intro T hT hne u hu
        have u1 : u 1 = (.slice (some ⟨gx, 0, none⟩) r.counts.length c21) := hu 1 rfl
        clear hu
        refine lx_next 1 (by rfl) (by decide) ?_
        dsimp only [List.take, List.drop]
        repeat (go_big_quiet_step (fail))
        refine wpQuiet_nil ?_
        refine lx_loud (by rfl) (by kernel_rfl) ?_ (fun K hK => ?_)
        · intro L w3 hL hd hcl hC hs
          obtain ⟨x, rfl⟩ := hC
          have hzs := x.size
          have h13 := hcl.off hL 40 13 (by kernel_rfl)
          simp only [h13, cond_false] at hs
          have hcc := (hs.get 4 rfl).cell 0 (v := .slice (some ⟨gx, 0, none⟩) r.counts.length c21) rfl
          have hlt := (hs.get 4 rfl).lt
          go_wp2
          exact aft_same x rfl hs (by first | (simp [upd, h13]; done) | (simp [upd, updv, h13, hL]; rfl))
        rw [u1]
        go_simp
        with_reducible refine hK _ ?_
        clear hK K
        refine lx_next 11 (by rfl) (by decide) ?_
        dsimp only [List.take, List.drop]
        repeat (go_big_quiet_step (fail))
        refine wpQuiet_nil ?_
        refine lx_loud (by rfl) (by kernel_rfl) ?_ (fun K hK => ?_)
        · intro L w3 hL hd hcl hC hs
          obtain ⟨x, rfl⟩ := hC
          have hzs := x.size
          simp only [hL, cond_false] at hs
          obtain ⟨gy, oy, ey, q0, q1, q2⟩ := CntsAt.of_own (l := xs) (by rw [HS'.out.len]; exact hs.get 0 rfl) tq hxl
          cases ey
          rw [Nat.zero_add] at q0 q1 q2
          have f0 := World.ownsRow.frozenAt (hs.get 0 rfl) (tq * 3)
          have f1 := World.ownsRow.frozenAt (hs.get 0 rfl) (tq * 3 + 1)
          have f2 := World.ownsRow.frozenAt (hs.get 0 rfl) (tq * 3 + 2)
          have hlt := lt_of_cell q0
          simp only at hlt
          go_wp2
          exact aft_set x hlo trivial hs 0 rfl ((((Chg.refl (fun k => (Value.slice (some ⟨gx, 0, none⟩) r.counts.length c21).ownBlock = some k) x.world).setCell (p := ⟨gx, tq * 3, none⟩) (.inr rfl) _).setCell (p := ⟨gx, tq * 3 + 1, none⟩) (.inr rfl) _).setCell (p := ⟨gx, tq * 3 + 2, none⟩) (.inr rfl) _) (r' := Res.own B 24 3 (.slice (some ⟨gx, 0, none⟩) r.counts.length c21) r.counts.length ((((xs.flatMap Cnt.cells).set (tq * 3) (.int .i64 cs)).set (tq * 3 + 1) (.int .i64 cg)).set (tq * 3 + 2) (.int .i64 cgo))) (own_setN (own_setN (own_setN (hs.get 0 rfl) _) _) _) (fun _ hk => .inl hk) (by first | (simp [upd, hL]; done) | (simp [upd, updv, hL]; rfl))
        go_simp
        with_reducible refine hK _ ?_
        clear hK K
        refine lx_nil ?_
        intro x hs
        have hs2 : Frm B [Res.own B 24 3 (.slice (some ⟨gx, 0, none⟩) r.counts.length c21) r.counts.length ((xs.set tq ⟨cs, cg, cgo⟩).flatMap Cnt.cells), Res.none, Res.vis B (.slice a24 l.length c24) l us, Res.none, Res.blk k11 #[.slice (some ⟨gx, 0, none⟩) r.counts.length c21, .int .i64 r.first, .int .i64 r.rounds, .bool r.equal]] x.world := by
          rw [← cnts_set xs tq hxl ⟨cs, cg, cgo⟩]
          exact hs
        have HF2 := Lib.hid hs2
        have HX3 := Lib.hid (Chg.to_ext hx x.chg (by rintro i ⟨_, h⟩; have h : B ≤ i := h; omega))
        clear hs hs2 hT hne u1 hlo
        generalize x.world = w4 at *
        clear x
        go_wp2
        go_roundw
        case rel => exact ⟨p + 1, _, by omega, by go_num, HST.out, HF2.out, HX3.out⟩
        case measure => simp [intOf]; omega
      · have hpn : p = r.counts.length := by omega
        have hst := HS'.out
        rw [hpn] at hst
        have HST := Lib.hid hst
        clear hst hpn
        go_wp2
        go_meet
        exact ⟨xs, HST.out, HF1.out, hx⟩
  case rest =>
    obtain ⟨xs, hini, hF, hx⟩ := hcut
    obtain ⟨w3, rfl⟩ : ∃ x, x = wc := ⟨_, rfl⟩
    obtain ⟨fq, hfq⟩ : ∃ fq, (r.first + (by_ : Int)) % (r.counts.length : Int) = fq := ⟨_, rfl⟩
    have hRR : RotR by_ r ⟨xs, fq, r.rounds, r.equal⟩ := ⟨hini.len, hbyn, hini.at_, hfq.symm, rfl, rfl⟩
    obtain ⟨g', hps', hG⟩ := rot_playS HOK.out hRR HI.out HT.out.short
    have HRR := Lib.hid hRR
    have HPS' := Lib.hid hps'
    have HG := Lib.hid hG
    have hsz := hx.size
    replace m1 := hx.cell (HB4.out.cell 1 (v := .int .i64 r.first) rfl)
    replace hk4l : k4 < w3.heap.size := by omega
    have hb11 : Blk w3 k11 #[.slice (some ⟨gx, 0, none⟩) r.counts.length c21, .int .i64 r.first, .int .i64 r.rounds, .bool r.equal] := hF.get 4 rfl
    have f1 := hb11.frozen 1
    have n1 := hb11.cell 1 (v := .int .i64 r.first) rfl
    have hl11 := hb11.lt
    have hlo : B ≤ w3.heap.size := by omega
    have hB11 := (hF.lt 4 rfl k11 rfl).1
    have hf4 := hF.store (j := 1) 4 rfl (.int .i64 fq) hlo
    have hx4 : Ext w1 (w3.setCell ⟨k11, 1, none⟩ (.int .i64 fq)) := hx.setCell (p := ⟨k11, 1, none⟩) (by show _ ≤ k11; omega) _
    have HF4 : Hid (Frm B [Res.own B 24 3 (.slice (some ⟨gx, 0, none⟩) r.counts.length c21) r.counts.length (xs.flatMap Cnt.cells), Res.none, Res.vis B (.slice a24 l.length c24) l us, Res.none, Res.blk k11 #[.slice (some ⟨gx, 0, none⟩) r.counts.length c21, .int .i64 fq, .int .i64 r.rounds, .bool r.equal]] (w3.setCell ⟨k11, 1, none⟩ (.int .i64 fq))) := Lib.hid hf4
    have HX4 := Lib.hid hx4
    have HLX := Lib.hid hini.len
    have HSH := Lib.hid HT.out.short
    clear hini hF hx hRR hps' hG hb11 hf4 hx4 m0 HF0 HX2 hsz2
    go_upto_block 2 with fail
    go_cut [14] from 84 to 102 (fun _ wx => Frm B [Res.own B 24 3 (.slice (some ⟨gx, 0, none⟩) r.counts.length c21) r.counts.length (xs.flatMap Cnt.cells), Res.none, Res.vis B (.slice a24 l.length c24) (l.map (rotL r.counts.length by_)) us, Res.none, Res.blk k11 #[.slice (some ⟨gx, 0, none⟩) r.counts.length c21, .int .i64 fq, .int .i64 r.rounds, .bool r.equal]] wx ∧ Ext w1 wx)
    case first =>
      have hl60 := HSH.out
      go_wp2_with fail
      go_loopw [14] (fun ii wr => ∃ i : Nat, i ≤ l.length ∧ ii = .int .i64 i ∧ Frm B [Res.own B 24 3 (.slice (some ⟨gx, 0, none⟩) r.counts.length c21) r.counts.length (xs.flatMap Cnt.cells), Res.none, Res.vis B (.slice a24 l.length c24) ((l.take i).map (rotL r.counts.length by_) ++ l.drop i) us, Res.none, Res.blk k11 #[.slice (some ⟨gx, 0, none⟩) r.counts.length c21, .int .i64 fq, .int .i64 r.rounds, .bool r.equal]] wr ∧ Ext w1 wr) (fun ii _ => l.length - (intOf ii).toNat)
      case atStart => exact ⟨0, Nat.zero_le _, rfl, HF4.out, HX4.out⟩
      case round =>
        obtain ⟨i, hi, rfl, hF, hx⟩ := hrel
        have hsz := hx.size
        have HF1 := Lib.hid hF
        have HXr := Lib.hid hx
        have hlo : B ≤ wr.heap.size := by omega
        clear hF HF4 HX4 m1 f1 n1 hl11
        by_cases hlt : i < l.length
        · have hll := rotL_len (rotL r.counts.length by_) l i
          have hget := rotL_get (rotL r.counts.length by_) hlt
          have hstep := rotL_step (rotL r.counts.length by_) hlt
          have hpl := tal_player HOK.out HI.out hlt
          have hvo : VisO wr B (.slice a24 l.length c24) ((l.take i).map (rotL r.counts.length by_) ++ l.drop i) us := HF1.out.get 2 rfl
          obtain ⟨gv, cv, ev, hg1, hg2⟩ := own_pos hvo.outer (by rw [hll]; omega)
          injection ev with ev1 ev2 ev3
          subst ev1
          have hil : i < ((l.take i).map (rotL r.counts.length by_) ++ l.drop i).length := by rw [hll]; exact hlt
          have hgi : ((l.take i).map (rotL r.counts.length by_) ++ l.drop i)[i] = l[i] := by
            rw [List.getElem?_eq_getElem hil] at hget
            exact Option.some.inj hget
          have p0 : wr.cell? ⟨gv, i * 2, none⟩ = some (.int .i64 l[i].player) := by
            have ho := hvo.outer
            rw [hll] at ho
            rw [World.ownsRow.cellAt ho (i * 2) (by omega), (lvC_get _ us hvo.len i hil).1, hgi]
          have fz : wr.frozen? ⟨gv, i * 2, none⟩ = false := by
            have ho := hvo.outer
            rw [hll] at ho
            exact World.ownsRow.frozenAt ho (i * 2)
          have hs' := visO_setp hll.symm hvo hil ((l[i].player + (by_ : Int)) % (r.counts.length : Int))
          rw [hgi] at hs'
          have hstep' : ((l.take i).map (rotL r.counts.length by_) ++ l.drop i).set i ⟨(l[i].player + (by_ : Int)) % (r.counts.length : Int), l[i].beds⟩ = (l.take (i + 1)).map (rotL r.counts.length by_) ++ l.drop (i + 1) := hstep
          rw [hstep'] at hs'
          obtain ⟨np, hnp⟩ : ∃ np, (l[i].player + (by_ : Int)) % (r.counts.length : Int) = np := ⟨_, rfl⟩
          rw [hnp] at hs'
          have hf5 := HF1.out.set 2 rfl (Chg.setCell (S := fun k => (Value.slice (some ⟨gv, 0, none⟩) l.length c24).ownBlock = some k ∨ ∃ u ∈ us, u.ownBlock = some k) (Chg.refl _ wr) (p := ⟨gv, i * 2, none⟩) (.inr (.inl rfl)) (.int .i64 np)) (r' := Res.vis B (.slice (some ⟨gv, 0, none⟩) l.length c24) ((l.take (i + 1)).map (rotL r.counts.length by_) ++ l.drop (i + 1)) us) hs' (fun _ hk => .inl hk) hlo
          have hx5 : Ext w1 (wr.setCell ⟨gv, i * 2, none⟩ (.int .i64 np)) := hx.setCell (p := ⟨gv, i * 2, none⟩) (by show _ ≤ gv; omega) _
          have HF5 := Lib.hid hf5
          have HX5 := Lib.hid hx5
          obtain ⟨hpl0, hpl1⟩ := hpl
          clear hll hget hstep hstep' hvo ev2 ev3 hil hgi hs' hf5 hx5 hx
          generalize l[i].player = pl at *
          go_wp2
          go_roundw
          case rel => exact ⟨i + 1, by omega, by go_num, HF5.out, HX5.out⟩
          case measure => simp [intOf]; omega
        · have hil : i = l.length := by omega
          have hf5 := HF1.out
          rw [hil, List.take_of_length_le (Nat.le_refl _), List.drop_of_length_le (Nat.le_refl _), List.append_nil] at hf5
          have HF5 := Lib.hid hf5
          clear hf5 hil hx
          go_wp2
          go_meet
          exact ⟨HF5.out, HXr.out⟩
    case rest =>
      obtain ⟨hF, hx⟩ := hcut
      have hvo : VisO wc B (.slice a24 l.length c24) (l.map (rotL r.counts.length by_)) us := hF.get 2 rfl
      obtain ⟨al, cl, ev, hvi, -⟩ := hvo.visIn
      injection ev with ev1 ev2 ev3
      subst ev1
      have hox : wc.ownsRow B 24 3 (.slice (some ⟨gx, 0, none⟩) xs.length c21) xs.length (xs.flatMap Cnt.cells) := by rw [HLX.out]; exact hF.get 0 rfl
      have hbx : Blk wc k11 #[.slice (some ⟨gx, 0, none⟩) xs.length c21, .int .i64 fq, .int .i64 r.rounds, .bool r.equal] := by rw [HLX.out]; exact hF.get 4 rfl
      have htw : TurnW r ⟨xs, fq, r.rounds, r.equal⟩ l (l.map (rotL r.counts.length by_)) k4 k5 k11 c1 c30 c21 c24 a1 a30 (some ⟨gx, 0, none⟩) a24 wc :=
        ⟨HB4.out.ext hx, HCr.out.ext hx, HCn.out, (HB5.out.ext hx).cell 0 rfl, HT.out.vis.ext hx, hbx, CntsAt.of_own hox, hvi⟩
      rename_i K0 a0
      refine a0 _ _ ?_
      exact turned_legs _ (by kernel_rfl) r ⟨xs, fq, r.rounds, r.equal⟩ l (l.map (rotL r.counts.length by_)) g g' by_ k4 k5 k11 c1 c30 c21 c24 a1 a30 (some ⟨gx, 0, none⟩) a24 off oa oc km l.length y0 y1 y2 y3 y4 w wc (Lib.hid htw) HG HPS HPS' HFI (Lib.hid (rot_fits (by omega) hrl8 HFI.out)) HLB hrl8 (by omega) hbyn HLX HSH.out (by rw [List.length_map]; exact HSH.out) hwin (by rw [List.length_map])
        (Lib.hid (HBM1.out.ext hx)) H1.out H2.out H3.out H4.out (Lib.hid (HO.out.ext (HX1.out.trans hx))) (by omega) HOB (Lib.hid (HX1.out.trans hx))
end Go.Proofs.Ytocnglplhnhllaa
