/-
  The statements of chapter 1: own, ints.
-/
import Derived.Test.YtlkbbcfbnbnagaaGreatLba
import Derived.Test.YtlkbbcfbnbnagaaGreatBoN
import Derived.Test.YtlkbbcfbnbnagaaGreatBoW
import Derived.Test.YtlkbbcfbnbnagaaGreatSen
import Derived.Test.YtlkbbcfbnbnagaaGreatBoP
import Derived.Test.YtlkbbcfbnbnagaaGreatBoS
namespace Go.Proofs.YtlkbbcfbnbnagaaGreat
open Go.RowKit Go.BigFrame
attribute [local go_sem] Later.cell Later.frozen
theorem info_rg : (Tryz.prog.info? 58).map (fun i => (i.zero, i.size, i.bytes)) = some (some (.agg #[.int .i64 0, .int .i64 0]), 2, 16) := by kernel_rfl
theorem info_pt : (Tryz.prog.info? 60).map (fun i => (i.zero, i.size, i.bytes)) = some (some (.agg #[.int .i64 0, .int .i64 0]), 2, 16) := by kernel_rfl
theorem own_blk {b n c i : Nat} (e : (Value.slice (some ⟨b, 0, none⟩) n c).ownBlock = some i) : b = i := Option.some.inj e
def Rg.cells (x : Rg) : List Value := [.int .i64 x.outer, .int .i64 x.factor]
def Pt.cells (x : Pt) : List Value := [.int .i64 x.x, .int .i64 x.y]
theorem law_ints (xs : List Int) (a : Option Addr) (c : Nat) (w : World) (hx : CellsAt w .i64 a xs) (hnil : a = none → xs.length = 0 ∧ c = 0) (hl : xs.length ≤ 1000000) :
    Calls Tryz.prog 8 #[.slice a xs.length c] w fun e w' => ∃ v, e = .returned v ∧ OwnI w' w.heap.size v xs ∧ Ext w w' := by
  have HX := Lib.hid hx
  have HN := Lib.hid hnil
  have hE : OwnI (w.alloc (.cells #[] 3)) w.heap.size (.slice (some ⟨w.heap.size, 0, none⟩) 0 0) [] := own_empty rfl (Nat.le_refl _)
  have HE := Lib.hid hE
  obtain ⟨m, hm⟩ : ∃ m, xs.length = m := ⟨_, rfl⟩
  have HM := Lib.hid hm
  have HL := Lib.hid hl
  rw [hm]
  clear hx hE hnil hl hm
  go_enter Tryz.func8, Tryz.ntmps8
  go_wp2_with (at_builtin; refine wp_append_vals rfl _ _ 24 3 (.int .i64 0) 1 8 rfl info_int (by kernel_rfl) rfl (by decide) w.heap.size _ 0 [] rfl HE.out a m c (xs.map (Value.int .i64)) rfl (by have := HN.out; rwa [HM.out] at this) (by simp [HM.out]) (CellsAt.vals (HX.out.ext ((Ext.refl w).alloc _))) (ints_one _ _) (by have := HL.out; have := HM.out; omega) (by omega) (by simp) ?_)
  intro v' w5 hO5 hg5
  have hE5 := Chg.to_ext ((Ext.refl w).alloc (.cells #[] 3)) (grown_chg hg5) (fun i e => (own_lt HE.out i e).1)
  have hO6 : OwnI w5 w.heap.size v' xs := by
    show w5.ownsRow _ _ _ _ xs.length (xs.map (Value.int .i64))
    rw [HM.out]; simpa using hO5
  have HO5 := Lib.hid hO6
  clear hO5 hg5 hO6
  go_wp2
  go_ret
  exact ⟨_, rfl, HO5.out, hE5⟩
theorem rg_get (l : List Rg) (i : Nat) (h : i < l.length) : (l.flatMap Rg.cells)[i * 2]? = some (.int .i64 l[i].outer) ∧ (l.flatMap Rg.cells)[i * 2 + 1]? = some (.int .i64 l[i].factor) := by
  induction l generalizing i with
  | nil => cases h
  | cons x l ih =>
    cases i with
    | zero => exact ⟨rfl, rfl⟩
    | succ i =>
      have := ih i (by simpa using h)
      rw [List.flatMap_cons, show (i + 1) * 2 = i * 2 + 1 + 1 by omega]
      exact this
theorem pt_get (l : List Pt) (i : Nat) (h : i < l.length) : (l.flatMap Pt.cells)[i * 2]? = some (.int .i64 l[i].x) ∧ (l.flatMap Pt.cells)[i * 2 + 1]? = some (.int .i64 l[i].y) := by
  induction l generalizing i with
  | nil => cases h
  | cons x l ih =>
    cases i with
    | zero => exact ⟨rfl, rfl⟩
    | succ i =>
      have := ih i (by simpa using h)
      rw [List.flatMap_cons, show (i + 1) * 2 = i * 2 + 1 + 1 by omega]
      exact this
theorem rg_length (l : List Rg) : (l.flatMap Rg.cells).length = l.length * 2 := by
  induction l with
  | nil => rfl
  | cons x l ih => rw [List.flatMap_cons, List.length_append, ih]; simp [Rg.cells]; omega
theorem pt_length (l : List Pt) : (l.flatMap Pt.cells).length = l.length * 2 := by
  induction l with
  | nil => rfl
  | cons x l ih => rw [List.flatMap_cons, List.length_append, ih]; simp [Pt.cells]; omega
theorem rg_one (l : List Rg) : ∀ u ∈ l.flatMap Rg.cells, u.oneCell' = true := by
  intro u hu
  obtain ⟨x, _, hx⟩ := List.mem_flatMap.1 hu
  simp [Rg.cells] at hx
  rcases hx with rfl | rfl <;> rfl
theorem pt_one (l : List Pt) : ∀ u ∈ l.flatMap Pt.cells, u.oneCell' = true := by
  intro u hu
  obtain ⟨x, _, hx⟩ := List.mem_flatMap.1 hu
  simp [Pt.cells] at hx
  rcases hx with rfl | rfl <;> rfl
theorem RgsAt.vals {w : World} {a : Option Addr} {l : List Rg} (h : RgsAt w a l) : ∀ ad, a = some ad → ∀ j u, (l.flatMap Rg.cells)[j]? = some u → w.cell? (ad.add j) = some u := by
  intro ad ha j u hu
  have hj := (List.getElem?_eq_some_iff.1 hu).1
  rw [rg_length] at hj
  have hi : j / 2 < l.length := by omega
  obtain ⟨b, o, e, h0, h1⟩ := h (j / 2) hi
  rw [ha] at e
  cases e
  have hg := rg_get l (j / 2) hi
  rw [addr_add]
  rcases (by omega : j = j / 2 * 2 ∨ j = j / 2 * 2 + 1) with hm | hm
  · rw [← hm] at hg h0
    rw [hg.1] at hu
    cases hu
    exact h0
  · rw [Nat.add_assoc, ← hm] at h1
    rw [← hm] at hg
    rw [hg.2] at hu
    cases hu
    exact h1
def OwnRg (w : World) (base : Nat) (v : Value) (l : List Rg) : Prop := w.ownsRow base 58 2 v l.length (l.flatMap Rg.cells)
theorem OwnRg.cells {w : World} {base : Nat} {v : Value} {l : List Rg} (h : OwnRg w base v l) : ∃ a c, v = .slice a l.length c ∧ RgsAt w a l ∧ (a = none → l.length = 0 ∧ c = 0) := by
  have hc := fun g (hg : v.ownBlock = some g) => World.ownsRow.cells (w := w) (g := g) h hg
  obtain ⟨h1, ⟨e, h2⟩ | ⟨g, cap, cur, e, h2, h3, h4⟩⟩ := h
  · have : l = [] := List.length_eq_zero_iff.1 h2
    subst this
    exact ⟨none, 0, e, fun i hi => absurd hi (by simp), fun _ => ⟨rfl, rfl⟩⟩
  · refine ⟨some ⟨g, 0, none⟩, cap, e, fun i hi => ⟨g, 0, rfl, ?_, ?_⟩, fun h => by cases h⟩
    · have := hc g (by rw [e]; rfl) (i * 2) _ (rg_get l i hi).1
      rwa [addr_add] at this
    · have := hc g (by rw [e]; rfl) (i * 2 + 1) _ (rg_get l i hi).2
      rwa [addr_add] at this
theorem OwnRg.chg {w w' : World} {S : Nat → Prop} {base : Nat} {v : Value} {l : List Rg} (h : OwnRg w base v l) (hx : Chg S w w') (hs : ∀ k, v.ownBlock = some k → ¬ S k) : OwnRg w' base v l := own_chg h hx hs
theorem PtsAt.vals {w : World} {a : Option Addr} {l : List Pt} (h : PtsAt w a l) : ∀ ad, a = some ad → ∀ j u, (l.flatMap Pt.cells)[j]? = some u → w.cell? (ad.add j) = some u := by
  intro ad ha j u hu
  have hj := (List.getElem?_eq_some_iff.1 hu).1
  rw [pt_length] at hj
  have hi : j / 2 < l.length := by omega
  obtain ⟨b, o, e, h0, h1⟩ := h (j / 2) hi
  rw [ha] at e
  cases e
  have hg := pt_get l (j / 2) hi
  rw [addr_add]
  rcases (by omega : j = j / 2 * 2 ∨ j = j / 2 * 2 + 1) with hm | hm
  · rw [← hm] at hg h0
    rw [hg.1] at hu
    cases hu
    exact h0
  · rw [Nat.add_assoc, ← hm] at h1
    rw [← hm] at hg
    rw [hg.2] at hu
    cases hu
    exact h1
def OwnPt (w : World) (base : Nat) (v : Value) (l : List Pt) : Prop := w.ownsRow base 60 2 v l.length (l.flatMap Pt.cells)
theorem OwnPt.cells {w : World} {base : Nat} {v : Value} {l : List Pt} (h : OwnPt w base v l) : ∃ a c, v = .slice a l.length c ∧ PtsAt w a l ∧ (a = none → l.length = 0 ∧ c = 0) := by
  have hc := fun g (hg : v.ownBlock = some g) => World.ownsRow.cells (w := w) (g := g) h hg
  obtain ⟨h1, ⟨e, h2⟩ | ⟨g, cap, cur, e, h2, h3, h4⟩⟩ := h
  · have : l = [] := List.length_eq_zero_iff.1 h2
    subst this
    exact ⟨none, 0, e, fun i hi => absurd hi (by simp), fun _ => ⟨rfl, rfl⟩⟩
  · refine ⟨some ⟨g, 0, none⟩, cap, e, fun i hi => ⟨g, 0, rfl, ?_, ?_⟩, fun h => by cases h⟩
    · have := hc g (by rw [e]; rfl) (i * 2) _ (pt_get l i hi).1
      rwa [addr_add] at this
    · have := hc g (by rw [e]; rfl) (i * 2 + 1) _ (pt_get l i hi).2
      rwa [addr_add] at this
theorem OwnPt.chg {w w' : World} {S : Nat → Prop} {base : Nat} {v : Value} {l : List Pt} (h : OwnPt w base v l) (hx : Chg S w w') (hs : ∀ k, v.ownBlock = some k → ¬ S k) : OwnPt w' base v l := own_chg h hx hs
theorem OwnI.cells' {w : World} {base : Nat} {v : Value} {l : List Int} (h : OwnI w base v l) : ∃ a c, v = .slice a l.length c ∧ CellsAt w .i64 a l ∧ (a = none → l.length = 0 ∧ c = 0) ∧ l.length ≤ c ∧ c ≤ maxLen := by
  obtain ⟨a, c, e, hc⟩ := h.cells
  obtain ⟨h1, ⟨e', h2⟩ | ⟨g, cap, cur, e', h2, h3, h4, h5, h6⟩⟩ := h
  · rw [e'] at e
    simp only [Value.slice.injEq] at e
    obtain ⟨rfl, -, rfl⟩ := e
    exact ⟨none, 0, by rw [e', h2], hc, fun _ => ⟨h2, rfl⟩, by omega, by decide⟩
  · rw [e'] at e
    simp only [Value.slice.injEq] at e
    obtain ⟨rfl, -, rfl⟩ := e
    exact ⟨_, _, e', hc, (fun h => by cases h), h4, h5⟩
/-- A nil slice is empty. -/
structure BrdNil (v : BrdV) (b : Brd) : Prop where
  r : v.ra = none → b.rings.length = 0 ∧ v.rc = 0
  l : v.la = none → b.lines.length = 0 ∧ v.lc = 0
  n : v.na = none → b.nums.length = 0 ∧ v.nc = 0
  cap : b.nums.length ≤ v.nc ∧ v.nc ≤ maxLen
/-- A board's memory lies from s on. -/
def Fre (v : BrdV) (s : Nat) : Prop := ∀ k o, (v.ra = some ⟨k, o, none⟩ ∨ v.la = some ⟨k, o, none⟩ ∨ v.na = some ⟨k, o, none⟩) → s ≤ k
set_option maxHeartbeats 2000000 in
theorem law_ownF (v : BrdV) (b : Brd) (w : World) (h : BrdAt w v b) (hn : BrdNil v b) (hs : SmallB b) :
    Calls Tryz.prog 11 #[.agg (v.cells b)] w fun e w' => ∃ v' : BrdV, e = .returned (.agg (v'.cells b)) ∧ OwnRg w' w.heap.size (.slice v'.ra b.rings.length v'.rc) b.rings ∧ OwnPt w' w.heap.size (.slice v'.la b.lines.length v'.lc) b.lines ∧ OwnI w' w.heap.size (.slice v'.na b.nums.length v'.nc) b.nums ∧
      (∀ k, (Value.slice v'.la b.lines.length v'.lc).ownBlock = some k → ¬ (Value.slice v'.na b.nums.length v'.nc).ownBlock = some k) ∧ (∀ k, (Value.slice v'.ra b.rings.length v'.rc).ownBlock = some k → ¬ (Value.slice v'.la b.lines.length v'.lc).ownBlock = some k) ∧ (∀ k, (Value.slice v'.ra b.rings.length v'.rc).ownBlock = some k → ¬ (Value.slice v'.na b.nums.length v'.nc).ownBlock = some k) ∧ Ext w w' := by
  have HB := Lib.hid h
  have HN := Lib.hid hn
  have HS := Lib.hid hs
  obtain ⟨eye, bull, rings, lines, nums, wire⟩ := b
  obtain ⟨ra, la, na, rc, lc, nc⟩ := v
  unfold BrdV.cells
  simp only
  clear h hn hs
  go_enter Tryz.func11, Tryz.ntmps11
  go_upto_region 1 with fail
  obtain ⟨w0, hw0⟩ : ∃ x, x = (w.alloc (.cells #[.int .i64 eye, .int .i64 bull, .slice ra rings.length rc, .slice la lines.length lc, .slice na nums.length nc, .int .i64 wire] 26)).alloc (.cells #[.int .i64 0, .int .i64 0, .slice none 0 0, .slice none 0 0, .slice none 0 0, .int .i64 0] 26) := ⟨_, rfl⟩
  rw [← hw0]
  have hx0 : Ext w w0 := by rw [hw0]; exact ((Ext.refl w).alloc _).alloc _
  have hb0 : Blk w0 w.heap.size #[.int .i64 eye, .int .i64 bull, .slice ra rings.length rc, .slice la lines.length lc, .slice na nums.length nc, .int .i64 wire] := by rw [hw0]; exact (Blk.new _ _ _).alloc _
  have hz0 : Blk w0 (w.heap.size + 1) #[.int .i64 0, .int .i64 0, .slice none 0 0, .slice none 0 0, .slice none 0 0, .int .i64 0] := by rw [hw0]; exact Blk.at _ (by simp)
  have hlo : w.heap.size ≤ w0.heap.size := hx0.size
  have hs1 := HS.out.r
  have hs2 := HS.out.l
  have hs3 := HS.out.n
  have hn1 := HN.out.r
  have hn2 := HN.out.l
  have hn3 := HN.out.n
  simp only at hs1 hs2 hs3 hn1 hn2 hn3
  have hF0 : Frm w.heap.size [Res.blk w.heap.size #[.int .i64 eye, .int .i64 bull, .slice ra rings.length rc, .slice la lines.length lc, .slice na nums.length nc, .int .i64 wire], Res.blk (w.heap.size + 1) #[.int .i64 0, .int .i64 0, .slice none 0 0, .slice none 0 0, .slice none 0 0, .int .i64 0], Res.none, Res.none, Res.none] w0 := by
    have hf := Frm.nones w.heap.size 5 w
    have h1 := hf.set 0 (r := Res.none) (r' := Res.blk w.heap.size #[.int .i64 eye, .int .i64 bull, .slice ra rings.length rc, .slice la lines.length lc, .slice na nums.length nc, .int .i64 wire]) rfl (((Ext.refl w).alloc (.cells #[.int .i64 eye, .int .i64 bull, .slice ra rings.length rc, .slice la lines.length lc, .slice na nums.length nc, .int .i64 wire] 26)).chg _) (Blk.new _ _ _) (fun k hk => .inr (by have hk' : k = w.heap.size := hk; subst hk'; simp)) (Nat.le_refl _)
    have h2 := h1.set 1 (r := Res.none) (r' := Res.blk (w.heap.size + 1) #[.int .i64 0, .int .i64 0, .slice none 0 0, .slice none 0 0, .slice none 0 0, .int .i64 0]) rfl (((Ext.refl _).alloc (.cells #[.int .i64 0, .int .i64 0, .slice none 0 0, .slice none 0 0, .slice none 0 0, .int .i64 0] 26)).chg _) (Blk.at _ (by simp)) (fun k hk => .inr (by have hk' : k = w.heap.size + 1 := hk; subst hk'; simp)) (by simp)
    rw [hw0]
    exact h2
  clear hw0
  refine wp_region_sep (by kernel_rfl) [.box 0, .no, .val (.slice ra rings.length rc), .app rings.length, .box 0, .no, .val (.slice la lines.length lc), .app lines.length, .no, .val (.slice na nums.length nc), .app nums.length, .no, .any, .no, .any, .no, .any] w.heap.size
    (fun L u => [Res.blk w.heap.size #[.int .i64 eye, .int .i64 bull, bif L 12 then u 3 else .slice ra rings.length rc, bif L 14 then u 7 else .slice la lines.length lc, bif L 16 then u 10 else .slice na nums.length nc, .int .i64 wire],
      Res.blk (w.heap.size + 1) #[.int .i64 0, .int .i64 0, .slice none 0 0, .slice none 0 0, .slice none 0 0, .int .i64 0],
      bif L 3 then Res.own w.heap.size 58 2 (u 3) rings.length (rings.flatMap Rg.cells) else bif L 0 then Res.own w.heap.size 58 2 (u 0) 0 [] else Res.none,
      bif L 7 then Res.own w.heap.size 60 2 (u 7) lines.length (lines.flatMap Pt.cells) else bif L 4 then Res.own w.heap.size 60 2 (u 4) 0 [] else Res.none,
      bif L 10 then Res.own w.heap.size 3 1 (u 10) nums.length (nums.map (Value.int .i64)) else Res.none])
    (by kernel_rfl) (Nat.le_of_ble_eq_true rfl) (fun L L' u hh => by simp only [hh 12 rfl, hh 14 rfl, hh 16 rfl, hh 3 rfl, hh 0 rfl, hh 7 rfl, hh 4 rfl, hh 10 rfl]) (fun _ => hF0) ?_
  intro T hT hne u hu
  have u2 : u 2 = .slice ra rings.length rc := hu 2 rfl
  have u6 : u 6 = .slice la lines.length lc := hu 6 rfl
  have u9 : u 9 = .slice na nums.length nc := hu 9 rfl
  obtain ⟨k0, u0⟩ : ∃ k, u 0 = .slice (some ⟨k, 0, none⟩) 0 0 := hu 0 rfl
  obtain ⟨k4, u4⟩ : ∃ k, u 4 = .slice (some ⟨k, 0, none⟩) 0 0 := hu 4 rfl
  obtain ⟨a3, c3, u3⟩ : ∃ a c, u 3 = .slice a rings.length c := hu 3 rfl
  obtain ⟨a7, c7, u7⟩ : ∃ a c, u 7 = .slice a lines.length c := hu 7 rfl
  obtain ⟨a10, c10, u10⟩ : ∃ a c, u 10 = .slice a nums.length c := hu 10 rfl
  clear hu
  refine lx_loud (by rfl) (by kernel_rfl) ?_ (fun K hK => ?_)
  · intro L w3 hL hd hcl hC hs
    obtain ⟨x, rfl⟩ := hC
    have hzs := x.size
    have h3 := hcl.off hL 40 3 (by kernel_rfl)
    simp only [hL, h3, cond_false] at hs
    go_wp2
    exact aft_set x hlo ⟨_, rfl⟩ hs 2 (r' := Res.own w.heap.size 58 2 (.slice (some ⟨x.world.heap.size, 0, none⟩) 0 0) 0 []) rfl (((Ext.refl x.world).alloc _).chg _) (own_box (by omega) (by decide) rfl) (fun k hk => .inr (by rw [← own_blk hk]; simp)) (by first | (simp [upd, updv, h3, hL]; done) | (simp [upd, updv, h3, hL]; rfl))
  rw [u0]
  go_simp
  with_reducible refine hK _ ?_
  clear hK K
  refine lx_next 1 (by rfl) (by decide) ?_
  dsimp only [List.take, List.drop]
  repeat (go_big_quiet_step (fail))
  refine wpQuiet_nil ?_
  refine lx_loud (by rfl) (by kernel_rfl) ?_ (fun K hK => ?_)
  · intro L w3 hL hd hcl hC hs
    obtain ⟨x, rfl⟩ := hC
    have hzs := x.size
    have h12 := hcl.off hL 40 12 (by kernel_rfl)
    simp only [h12, cond_false] at hs
    have hcc := (hs.get 0 rfl).cell 2 (v := .slice ra rings.length rc) rfl
    have hlt := (hs.get 0 rfl).lt
    go_wp2
    exact aft_same x rfl hs (by first | (simp [upd, updv, h12]; done) | (simp [upd, updv, h12, hL]; rfl))
  rw [u2]
  go_simp
  with_reducible refine hK _ ?_
  clear hK K
  refine lx_loud (by rfl) (by kernel_rfl) ?_ (fun K hK => ?_)
  · intro L w3 hL hd hcl hC hs
    obtain ⟨x, rfl⟩ := hC
    have hzs := x.size
    have h12 := hcl.off hL 40 12 (by kernel_rfl)
    have h0 := hd 0 (by kernel_rfl)
    simp only [hL, h0, h12, cond_true, cond_false] at hs
    rw [u0] at hs
    have hX : Ext w x.world := Chg.to_ext hx0 x.chg (by rintro i ⟨_, h⟩; exact h)
    refine wp_append_from rfl _ _ 22 58 _ 2 16 rfl info_rg (by kernel_rfl) rfl (by decide) w.heap.size _ 0 [] rfl (hs.get 2 rfl) ra rings.length rc (rings.flatMap Rg.cells) rfl hn1 (rg_length rings) ((HB.out.rings.ext hX).vals) (rg_one rings) (by omega) (by decide) (by omega) ?_
    intro v' w4 ho4 hC4 hn4
    obtain ⟨av, ac, rfl⟩ := own_shape ho4
    rw [Nat.zero_add] at ho4 hn4 ⊢
    go_wp2
    exact aft_set x hlo ⟨_, _, rfl⟩ hs 2 rfl hC4 (r' := Res.own w.heap.size 58 2 (.slice av rings.length ac) rings.length (rings.flatMap Rg.cells)) ho4 hn4 (by first | (simp [upd, updv, h0, h12, hL, u0]; done) | (simp [upd, updv, h0, h12, hL, u0]; rfl))
  rw [u3]
  go_simp
  with_reducible refine hK _ ?_
  clear hK K
  refine lx_loud (by rfl) (by kernel_rfl) ?_ (fun K hK => ?_)
  · intro L w3 hL hd hcl hC hs
    obtain ⟨x, rfl⟩ := hC
    have hzs := x.size
    have h7 := hcl.off hL 40 7 (by kernel_rfl)
    simp only [hL, h7, cond_false] at hs
    go_wp2
    exact aft_set x hlo ⟨_, rfl⟩ hs 3 (r' := Res.own w.heap.size 60 2 (.slice (some ⟨x.world.heap.size, 0, none⟩) 0 0) 0 []) rfl (((Ext.refl x.world).alloc _).chg _) (own_box (by omega) (by decide) rfl) (fun k hk => .inr (by rw [← own_blk hk]; simp)) (by first | (simp [upd, updv, h7, hL]; done) | (simp [upd, updv, h7, hL]; rfl))
  rw [u4]
  go_simp
  with_reducible refine hK _ ?_
  clear hK K
  refine lx_next 1 (by rfl) (by decide) ?_
  dsimp only [List.take, List.drop]
  repeat (go_big_quiet_step (fail))
  refine wpQuiet_nil ?_
  refine lx_loud (by rfl) (by kernel_rfl) ?_ (fun K hK => ?_)
  · intro L w3 hL hd hcl hC hs
    obtain ⟨x, rfl⟩ := hC
    have hzs := x.size
    have h14 := hcl.off hL 40 14 (by kernel_rfl)
    simp only [h14, cond_false] at hs
    have hcc := (hs.get 0 rfl).cell 3 (v := .slice la lines.length lc) rfl
    have hlt := (hs.get 0 rfl).lt
    go_wp2
    exact aft_same x rfl hs (by first | (simp [upd, updv, h14]; done) | (simp [upd, updv, h14, hL]; rfl))
  rw [u6]
  go_simp
  with_reducible refine hK _ ?_
  clear hK K
  refine lx_loud (by rfl) (by kernel_rfl) ?_ (fun K hK => ?_)
  · intro L w3 hL hd hcl hC hs
    obtain ⟨x, rfl⟩ := hC
    have hzs := x.size
    have h14 := hcl.off hL 40 14 (by kernel_rfl)
    have h4 := hd 4 (by kernel_rfl)
    simp only [hL, h4, h14, cond_true, cond_false] at hs
    rw [u4] at hs
    have hX : Ext w x.world := Chg.to_ext hx0 x.chg (by rintro i ⟨_, h⟩; exact h)
    refine wp_append_from rfl _ _ 23 60 _ 2 16 rfl info_pt (by kernel_rfl) rfl (by decide) w.heap.size _ 0 [] rfl (hs.get 3 rfl) la lines.length lc (lines.flatMap Pt.cells) rfl hn2 (pt_length lines) ((HB.out.lines.ext hX).vals) (pt_one lines) (by omega) (by decide) (by omega) ?_
    intro v' w4 ho4 hC4 hn4
    obtain ⟨av, ac, rfl⟩ := own_shape ho4
    rw [Nat.zero_add] at ho4 hn4 ⊢
    go_wp2
    exact aft_set x hlo ⟨_, _, rfl⟩ hs 3 rfl hC4 (r' := Res.own w.heap.size 60 2 (.slice av lines.length ac) lines.length (lines.flatMap Pt.cells)) ho4 hn4 (by first | (simp [upd, updv, h4, h14, hL, u4]; done) | (simp [upd, updv, h4, h14, hL, u4]; rfl))
  rw [u7]
  go_simp
  with_reducible refine hK _ ?_
  clear hK K
  refine lx_next 1 (by rfl) (by decide) ?_
  dsimp only [List.take, List.drop]
  repeat (go_big_quiet_step (fail))
  refine wpQuiet_nil ?_
  refine lx_loud (by rfl) (by kernel_rfl) ?_ (fun K hK => ?_)
  · intro L w3 hL hd hcl hC hs
    obtain ⟨x, rfl⟩ := hC
    have hzs := x.size
    have h16 := hcl.off hL 40 16 (by kernel_rfl)
    simp only [h16, cond_false] at hs
    have hcc := (hs.get 0 rfl).cell 4 (v := .slice na nums.length nc) rfl
    have hlt := (hs.get 0 rfl).lt
    go_wp2
    exact aft_same x rfl hs (by first | (simp [upd, updv, h16]; done) | (simp [upd, updv, h16, hL]; rfl))
  rw [u9]
  go_simp
  with_reducible refine hK _ ?_
  clear hK K
  refine lx_loud (by rfl) (by kernel_rfl) ?_ (fun K hK => ?_)
  · intro L w3 hL hd hcl hC hs
    obtain ⟨x, rfl⟩ := hC
    have hzs := x.size
    have h16 := hcl.off hL 40 16 (by kernel_rfl)
    simp only [hL, h16, cond_false] at hs
    have hX : Ext w x.world := Chg.to_ext hx0 x.chg (by rintro i ⟨_, h⟩; exact h)
    have hcall := law_ints nums na nc x.world (HB.out.nums.ext hX) hn3 hs3
    go_wp2_with fail
    refine hcall.mono ?_
    rintro e w4 ⟨v4, rfl, hO4, hx4⟩
    obtain ⟨av, ac, rfl, -⟩ := hO4.cells
    have hlt4 := own_lt hO4
    go_wp2
    exact aft_set x hlo ⟨_, _, rfl⟩ hs 4 (r := Res.none) rfl (hx4.chg _) (r' := Res.own w.heap.size 3 1 (.slice av nums.length ac) nums.length (nums.map (Value.int .i64))) (own_mono hO4 (Nat.le_trans hlo x.size)) (fun k hk => .inr (hlt4 k hk)) (by first | (simp [upd, updv, h16, hL]; done) | (simp [upd, updv, h16, hL]; rfl))
  rw [u10]
  go_simp
  with_reducible refine hK _ ?_
  clear hK K
  refine lx_next 1 (by rfl) (by decide) ?_
  dsimp only [List.take, List.drop]
  repeat (go_big_quiet_step (fail))
  refine wpQuiet_nil ?_
  refine lx_loud (by rfl) (by kernel_rfl) ?_ (fun K hK => ?_)
  · intro L w3 hL hd hcl hC hs
    obtain ⟨x, rfl⟩ := hC
    have hzs := x.size
    have h3 := hd 3 (by kernel_rfl)
    simp only [hL, h3, cond_true, cond_false] at hs
    have f0 := (hs.get 0 rfl).frozen 2
    have hlt := (hs.get 0 rfl).lt
    have hcc := (hs.get 0 rfl).cell 2 rfl
    go_wp2
    exact aft_store x hlo trivial hs 0 rfl (by first | (simp [upd, updv, h3, hL, u3]; done) | (simp [upd, updv, h3, hL, u3]; rfl))
  go_simp
  with_reducible refine hK _ ?_
  clear hK K
  refine lx_next 1 (by rfl) (by decide) ?_
  dsimp only [List.take, List.drop]
  repeat (go_big_quiet_step (fail))
  refine wpQuiet_nil ?_
  refine lx_loud (by rfl) (by kernel_rfl) ?_ (fun K hK => ?_)
  · intro L w3 hL hd hcl hC hs
    obtain ⟨x, rfl⟩ := hC
    have hzs := x.size
    have h7 := hd 7 (by kernel_rfl)
    simp only [hL, h7, cond_true, cond_false] at hs
    have f0 := (hs.get 0 rfl).frozen 3
    have hlt := (hs.get 0 rfl).lt
    have hcc := (hs.get 0 rfl).cell 3 rfl
    go_wp2
    exact aft_store x hlo trivial hs 0 rfl (by first | (simp [upd, updv, h7, hL, u7]; done) | (simp [upd, updv, h7, hL, u7]; rfl))
  go_simp
  with_reducible refine hK _ ?_
  clear hK K
  refine lx_next 1 (by rfl) (by decide) ?_
  dsimp only [List.take, List.drop]
  repeat (go_big_quiet_step (fail))
  refine wpQuiet_nil ?_
  refine lx_loud (by rfl) (by kernel_rfl) ?_ (fun K hK => ?_)
  · intro L w3 hL hd hcl hC hs
    obtain ⟨x, rfl⟩ := hC
    have hzs := x.size
    have h10 := hd 10 (by kernel_rfl)
    simp only [hL, h10, cond_true, cond_false] at hs
    have f0 := (hs.get 0 rfl).frozen 4
    have hlt := (hs.get 0 rfl).lt
    have hcc := (hs.get 0 rfl).cell 4 rfl
    go_wp2
    exact aft_store x hlo trivial hs 0 rfl (by first | (simp [upd, updv, h10, hL, u10]; done) | (simp [upd, updv, h10, hL, u10]; rfl))
  go_simp
  with_reducible refine hK _ ?_
  clear hK K
  refine lx_nil ?_
  intro x hs
  have hX : Ext w x.world := Chg.to_ext hx0 x.chg (by rintro i ⟨_, h⟩; exact h)
  simp only [cond_true] at hs
  rw [u3, u7, u10] at hs
  have hbb := hs.get 0 rfl
  have hzb := hs.get 1 rfl
  have ho3 := hs.get 2 rfl
  have ho7 := hs.get 3 rfl
  have ho10 := hs.get 4 rfl
  have HN3 := Lib.hid (hs.parts 2 1 _ _ rfl rfl (by decide))
  have HN7 := Lib.hid (hs.parts 3 1 _ _ rfl rfl (by decide))
  have HN10 := Lib.hid (hs.parts 4 1 _ _ rfl rfl (by decide))
  have HP1 := Lib.hid (hs.parts 3 4 _ _ rfl rfl (by decide))
  have HP2 := Lib.hid (hs.parts 2 3 _ _ rfl rfl (by decide))
  have HP3 := Lib.hid (hs.parts 2 4 _ _ rfl rfl (by decide))
  have HO3 := Lib.hid ho3
  have HO7 := Lib.hid ho7
  have HO10 := Lib.hid ho10
  have HX := Lib.hid hX
  have HZ := Lib.hid hzb
  have m0 := hbb.cell 0 (v := .int .i64 eye) rfl
  have m1 := hbb.cell 1 (v := .int .i64 bull) rfl
  have m2 := hbb.cell 2 (v := .slice a3 rings.length c3) rfl
  have m3 := hbb.cell 3 (v := .slice a7 lines.length c7) rfl
  have m4 := hbb.cell 4 (v := .slice a10 nums.length c10) rfl
  have m5 := hbb.cell 5 (v := .int .i64 wire) rfl
  have hml := hbb.lt
  have f0 := hzb.frozen 0
  have f1 := hzb.frozen 1
  have f2 := hzb.frozen 2
  have f3 := hzb.frozen 3
  have f4 := hzb.frozen 4
  have f5 := hzb.frozen 5
  have s0 := hzb.cell 0 (v := .int .i64 0) rfl
  have s1 := hzb.cell 1 (v := .int .i64 0) rfl
  have s2 := hzb.cell 2 (v := .slice none 0 0) rfl
  have s3 := hzb.cell 3 (v := .slice none 0 0) rfl
  have s4 := hzb.cell 4 (v := .slice none 0 0) rfl
  have s5 := hzb.cell 5 (v := .int .i64 0) rfl
  have hzl := hzb.lt
  clear hs hbb hzb ho3 ho7 ho10 hX hT hne u0 u2 u3 u4 u6 u7 u9 u10
  generalize x.world = wx at *
  have hne1 : w.heap.size ≠ w.heap.size + 1 := by omega
  go_wp2
  obtain ⟨W2, hW2, hB2, hX2⟩ := set6_pack HX.out (n := w.heap.size + 1) (by omega) HZ.out (.int .i64 eye) (.int .i64 bull) (.slice a3 rings.length c3) (.slice a7 lines.length c7) (.slice a10 nums.length c10) (.int .i64 wire)
  rw [hW2]
  have hC2 : Chg (fun k => k = w.heap.size + 1) wx W2 := by
    rw [← hW2]
    exact ((((((Chg.refl (fun k => k = w.heap.size + 1) wx).setCell (p := ⟨w.heap.size + 1, 0, none⟩) (.inr (show w.heap.size + 1 = w.heap.size + 1 from rfl)) _).setCell (p := ⟨w.heap.size + 1, 1, none⟩) (.inr (show w.heap.size + 1 = w.heap.size + 1 from rfl)) _).setCell (p := ⟨w.heap.size + 1, 2, none⟩) (.inr (show w.heap.size + 1 = w.heap.size + 1 from rfl)) _).setCell (p := ⟨w.heap.size + 1, 3, none⟩) (.inr (show w.heap.size + 1 = w.heap.size + 1 from rfl)) _).setCell (p := ⟨w.heap.size + 1, 4, none⟩) (.inr (show w.heap.size + 1 = w.heap.size + 1 from rfl)) _).setCell (p := ⟨w.heap.size + 1, 5, none⟩) (.inr (show w.heap.size + 1 = w.heap.size + 1 from rfl)) _
  have d0 := hB2.cell 0 (v := .int .i64 eye) rfl
  have d1 := hB2.cell 1 (v := .int .i64 bull) rfl
  have d2 := hB2.cell 2 (v := .slice a3 rings.length c3) rfl
  have d3 := hB2.cell 3 (v := .slice a7 lines.length c7) rfl
  have d4 := hB2.cell 4 (v := .slice a10 nums.length c10) rfl
  have d5 := hB2.cell 5 (v := .int .i64 wire) rfl
  refine bodyPost_ret (v := .agg #[.int .i64 eye, .int .i64 bull, .slice a3 rings.length c3, .slice a7 lines.length c7, .slice a10 nums.length c10, .int .i64 wire]) (by simp [results, Tryz.results11, go_sem, d0, d1, d2, d3, d4, d5]) rfl ?_
  have e3 : OwnRg W2 w.heap.size (.slice a3 rings.length c3) rings := own_chg HO3.out hC2 (fun k hk e => HN3.out k hk e)
  have e7 : OwnPt W2 w.heap.size (.slice a7 lines.length c7) lines := own_chg HO7.out hC2 (fun k hk e => HN7.out k hk e)
  have e10 : OwnI W2 w.heap.size (.slice a10 nums.length c10) nums := own_chg HO10.out hC2 (fun k hk e => HN10.out k hk e)
  exact ⟨⟨a3, a7, a10, c3, c7, c10⟩, rfl, e3, e7, e10, HP1.out, HP2.out, HP3.out, hX2⟩
theorem law_own (v : BrdV) (b : Brd) (w : World) (h : BrdAt w v b) (hn : BrdNil v b) (hs : SmallB b) :
    Calls Tryz.prog 11 #[.agg (v.cells b)] w fun e w' => ∃ v', e = .returned (.agg (v'.cells b)) ∧ BrdAt w' v' b ∧ BrdNil v' b ∧ Fre v' w.heap.size ∧ Ext w w' := by
  refine (law_ownF v b w h hn hs).mono ?_
  rintro e w' ⟨⟨a3, a7, a10, c3, c7, c10⟩, rfl, e3, e7, e10, -, -, -, hx⟩
  obtain ⟨b3, g3, q3, t3, n3⟩ := e3.cells
  obtain ⟨b7, g7, q7, t7, n7⟩ := e7.cells
  obtain ⟨b10, g10, q10, t10, n10, n11⟩ := e10.cells'
  cases q3
  cases q7
  cases q10
  refine ⟨⟨a3, a7, a10, c3, c7, c10⟩, rfl, ⟨t3, t7, t10⟩, ⟨n3, n7, n10, n11⟩, fun k o hk => ?_, hx⟩
  rcases hk with h | h | h <;> cases h
  · exact (World.ownsRow.lt e3 k rfl).1
  · exact (World.ownsRow.lt e7 k rfl).1
  · exact (World.ownsRow.lt e10 k rfl).1
end Go.Proofs.YtlkbbcfbnbnagaaGreat
