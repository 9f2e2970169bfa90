/-
  Package board: whether the rings of a board are valid.
-/
import Derived.Test.YtpifdeglhalefaaBoS
import Derived.Test.YtpifdeglhalefaaRcj
namespace Go.Proofs.Ytpifdeglhalefaa
open Go.RowKit Go.Shelf
attribute [local go_sem] Oper.semAt_some
def radB (wire : Int) : Int → List Int → Bool
  | _, [] => true
  | last, r :: l => ins (last + 2 * wire + 1) 5000 [r] && radB wire r l
def ringsB (b : Brd) : Bool := !b.rings.isEmpty && (ins 0 20 [b.wire] && (!(b.rings.any fun r => !ins 0 4 [r.factor]) && radB b.wire (-b.wire) b.radii))
theorem areRings1 (x : Rg) (w : World) : Calls Try.prog 103 #[x.agg] w fun e w' => e = .returned (.bool (!ins 0 4 [x.factor])) ∧ Ext w w' := by
  obtain ⟨o, f⟩ := x
  unfold Rg.agg
  go_enter Try.func103, Try.ntmps103
  go_wp2_with fail
  refine (brd_within_1 _ _ _ _ _ (by simp)).mono ?_
  rintro e w1 ⟨rfl, hx1⟩
  go_wp2
  go_ret
  exact ⟨rfl, ((Ext.refl w).alloc _).trans hx1⟩
theorem enters_areRings1 : Enters Try.prog 103 := enters_of Try.func103 (by kernel_rfl) rfl
theorem Ext.others {W W' : World} (h : Ext W W') : KeepsOthers W W' := ⟨h.size, fun _ _ hk _ => h.heap hk⟩
theorem ret_m1 {F : Fence} {n : Nat} {P : Program} {fn : Func} {R : Ending → World → Prop} {a : Act} {w : World} {v : Value} {D : Nat} (hd : a.defers = [{ target := .collected D, args := #[] }]) (hK : w.heap[D]? = some (.deferred (some [])))
    (h : (results fn a.tmps).run P (w.putObj D (.deferred none)) = .ok v (w.putObj D (.deferred none))) (hR : R (.returned v) (w.putObj D (.deferred none))) : bodyPostM F n P fn R .ret a w := by
  show LeavesInM F n P fn a.tmps R a.defers .returning w
  rw [hd]
  exact ⟨by simp, .inl ⟨_, _, rfl, run_takeDeferred hK, ⟨v, h, hR⟩⟩⟩
theorem frozen_put {W : World} {a : Addr} {v : Value} (h : W.cell? a = some v) {D : Nat} {o : Obj} (hK : W.heap[D]? = some o) (ho : o.isCells = false) (o' : Obj) : (W.putObj D o').frozen? a = W.frozen? a :=
  frozen_kept h (grownBy_putObj' W D o') (fun r e => by cases e; exact ⟨o, hK, ho⟩)
theorem radB_pre (wire : Int) : ∀ (l q : List Int) (a : Int), radB wire a l = false → radB wire a (l ++ q) = false
  | [], _, _, h => by cases h
  | y :: l, q, a, h => by
    simp only [List.cons_append, radB] at h ⊢
    cases hi : ins (a + 2 * wire + 1) 5000 [y]
    · rfl
    · rw [hi, Bool.true_and] at h
      rw [Bool.true_and]
      exact radB_pre wire l q y h
theorem ext_put {w W : World} (h : Ext w W) {D : Nat} (hD : w.heap.size ≤ D) (o : Obj) : Ext w (W.putObj D o) := Below.grown h (grownBy_putObj' W D o) h.size (fun k e => by cases e; exact hD)
theorem radB_snoc (wire : Int) : ∀ (l : List Int) (a x : Int), radB wire a (l ++ [x]) = (radB wire a l && ins ((l.getLast?.getD a) + 2 * wire + 1) 5000 [x])
  | [], a, x => by simp [radB]
  | y :: l, a, x => by
    simp only [List.cons_append, radB]
    rw [radB_snoc wire l y x, Bool.and_assoc]
    congr 2
    cases l <;> simp [List.getLast?_cons]
set_option maxRecDepth 100000 in
set_option maxHeartbeats 2000000 in
theorem brd_areRings (v : BrdV) (b : Brd) (w : World) (h : BrdAt w v b) (hlen : b.rings.length ≤ 1000000) :
    Calls Try.prog 75 #[.agg (v.cells b)] w fun e w' => e = .returned (.bool (ringsB b)) ∧ Ext w w' := by
  refine (callsIn_wide (n := 3)).1 ?_
  obtain ⟨rb, hrb⟩ : ∃ c, ringsB b = c := ⟨_, rfl⟩
  rw [hrb]
  have HRB := Lib.hid hrb
  have HB := Lib.hid h
  obtain ⟨eye, bull, rings, lines, nums, wire⟩ := b
  obtain ⟨ra, la, na, rc, lc, nc⟩ := v
  unfold BrdV.cells
  simp only at hlen ⊢
  clear hrb h
  refine callsIn_of_wp_marks Try.func75 rfl trivial ?_ rfl
  simp only [Try.ntmps75, List.size_toArray, List.length_cons, List.length_nil, Nat.reduceAdd, Nat.reduceSub, Array.replicate_succ, Array.replicate_zero, List.push_toArray, List.append_toArray, List.nil_append, List.cons_append]
  by_cases h0 : rings.length = 0
  · have hz : rings = [] := List.length_eq_zero_iff.1 h0
    subst hz
    gi_wp2
    refine ⟨trivial, ?_⟩
    gi_wp2
    refine ⟨trivial, ?_⟩
    gi_wp2
    have e : rb = false := by rw [← HRB.out]; rfl
    subst e
    refine ret_m (v := .bool false) rfl (by simp [results, Try.results75, go_sem]) ⟨rfl, ((Ext.refl w).alloc _).alloc _⟩
  have hlow : ∀ k o, ra = some ⟨k, o, none⟩ → k < w.heap.size := by
    intro k o e
    obtain ⟨b', o', e', c0, -⟩ := HB.out.rings 0 (by show 0 < rings.length; omega)
    have e'' : ra = some ⟨b', o', none⟩ := e'
    rw [e] at e''
    cases e''
    exact lt_of_cell c0
  have h0' : ((rings.length : Int) == 0) = false := by simp; intro h; exact h0 (by simp [h])
  gi_wp2_with fail
  refine ⟨trivial, (callsIn_wide.2 (brd_within_1 _ _ _ _ _ (by simp))).mono ?_⟩
  rintro e w1 ⟨rfl, hx1⟩
  have hx := Ext.trans (((Ext.refl w).alloc _).alloc _) hx1
  have hb1 : Blk w1 w.heap.size #[.int .i64 eye, .int .i64 bull, .slice ra rings.length rc, .slice la lines.length lc, .slice na nums.length nc, .int .i64 wire] := ((Blk.new w _ _).alloc _).ext hx1
  have hr1 : Blk w1 (w.heap.size + 1) #[.bool false] := (Blk.at _ (by simp)).ext hx1
  have m2 := hb1.cell 2 (v := .slice ra rings.length rc) rfl
  have m5 := hb1.cell 5 (v := .int .i64 wire) rfl
  have q0 := hr1.cell 0 (v := .bool false) rfl
  have f0 := hr1.frozen 0
  have hml := hb1.lt
  have hrl := hr1.lt
  clear hx1
  cases h1 : ins 0 20 [wire]
  · gi_wp2
    refine ⟨trivial, ?_⟩
    gi_wp2
    have e : rb = false := by rw [← HRB.out]; simp [ringsB, h1]
    subst e
    refine ret_m (v := .bool false) rfl (by simp [results, Try.results75, go_sem, q0]) ⟨rfl, hx.setCell (p := ⟨w.heap.size + 1, 0, none⟩) (by simp) _⟩
  have hrg : RgsAt w1 ra rings := HB.out.rings.ext hx
  have HRG := Lib.hid hrg
  clear hrg
  gi_wp2_with fail
  refine ⟨trivial, (callsIn_wide.2 (containsFunc_rb 103 #[] enters_areRings1 (fun x => !ins 0 4 [x.factor]) rings ra rc w1 HRG.out (by omega) (fun x _ W _ => areRings1 x W))).mono ?_⟩
  rintro e w2 ⟨rfl, hx2⟩
  have hX := hx.trans hx2
  replace hb1 := hb1.ext hx2
  replace hr1 := hr1.ext hx2
  replace m5 := hx2.cell m5
  replace q0 := hx2.cell q0
  replace f0 := hr1.frozen 0
  have hsz2 := hx2.size
  cases h2 : rings.any (fun x => !ins 0 4 [x.factor])
  case true =>
    gi_wp2
    have e : rb = false := by rw [← HRB.out]; simp only [ringsB, h1, h2]; simp
    subst e
    refine ret_m (v := .bool false) rfl (by simp [results, Try.results75, go_sem, q0]) ⟨rfl, hX.setCell (p := ⟨w.heap.size + 1, 0, none⟩) (by simp) _⟩
  have hw := ins_one.1 h1
  obtain ⟨hw0, hw1⟩ := hw
  have m0 := hb1.cell 0 (v := .int .i64 eye) rfl
  have m1 := hb1.cell 1 (v := .int .i64 bull) rfl
  have m2' := hb1.cell 2 (v := .slice ra rings.length rc) rfl
  have m3 := hb1.cell 3 (v := .slice la lines.length lc) rfl
  have m4 := hb1.cell 4 (v := .slice na nums.length nc) rfl
  replace hml := hb1.lt
  replace hrl := hr1.lt
  clear m2 hx2 hx
  gi_wp2_with fail
  refine ⟨trivial, (board_radii Fence.wide _ trivial rfl ⟨ra, la, na, rc, lc, nc⟩ ⟨eye, bull, rings, lines, nums, wire⟩ _).mono ?_⟩
  rintro e w3 ⟨rfl, hw3⟩
  gi_wp2_with fail
  rw [← hw3]
  have hsz3 : w3.heap.size = w2.heap.size + 1 + 1 := by rw [hw3]; simp
  have hx23 : Ext w2 w3 := by rw [hw3]; exact ((Ext.refl w2).alloc _).alloc _
  have hl3 : Blk w3 w2.heap.size #[.int .i64 (-wire)] := by rw [hw3]; exact (Blk.new w2 _ _).alloc _
  have hb3 : Blk w3 (w2.heap.size + 1) #[.int .i64 eye, .int .i64 bull, .slice ra rings.length rc, .slice la lines.length lc, .slice na nums.length nc, .int .i64 wire] := by rw [hw3]; exact Blk.at _ (by simp)
  have hX3 := hX.trans hx23
  have hRW : RadW (w2.heap.size + 1) ⟨eye, bull, rings, lines, nums, wire⟩ ra rc w3 := ⟨hb3.cell 0 rfl, hb3.cell 1 rfl, hb3.cell 2 rfl, HB.out.rings.ext hX3⟩
  have q3 := hx23.cell q0
  have g3 := (hr1.ext hx23).frozen 0
  have n3 := hx23.cell m5
  have p3 := hl3.cell 0 (v := .int .i64 (-wire)) rfl
  have o3 := hl3.frozen 0
  have hwz : w.heap.size + 1 < w2.heap.size := hrl
  have hlow' : ∀ k o, ra = some ⟨k, o, none⟩ → k < w.heap.size := hlow
  clear hw3 hl3 hb3 q0 f0 m0 m1 m2' m3 m4 m5 hx23
  refine wpIn_rangeFunc_ownF (α := Int) rfl (by decide) (gf := 106) (lb := #[.pointer (some ⟨w2.heap.size + 1, 0, none⟩)]) rfl trivial (enters_of Try.func106 (by kernel_rfl) rfl)
    (radii_stops Fence.wide _ trivial rfl (by decide) (w2.heap.size + 1) ⟨eye, bull, rings, lines, nums, wire⟩ ra rc (fun A B => ∀ k, k < w3.heap.size → k ≠ w2.heap.size → B.heap[k]? = A.heap[k]?) (fun h k hk => h k (by
      rcases hk with rfl | ⟨o, e⟩
      · omega
      · have := hlow' k o e; omega) (by
      rcases hk with rfl | ⟨o, e⟩
      · omega
      · have := hlow' k o e; omega)) w3 hRW hlen)
    (fun h k i h1 h2 => (k i h1 h2).trans (h i h1 h2)) (fun W l o o' hl _ _ _ k hk _ => World.putObj_heap_other (by omega)) (Below.refl _ _) (fun _ => rfl)
    (fun pre W => (∃ lst, lst = pre.getLast?.getD (-wire) ∧ (-20 ≤ lst ∧ lst ≤ 5000) ∧ W.cell? ⟨w2.heap.size, 0, none⟩ = some (.int .i64 lst)) ∧ W.frozen? ⟨w2.heap.size, 0, none⟩ = false ∧ W.cell? ⟨w.heap.size, 5, none⟩ = some (.int .i64 wire) ∧ W.cell? ⟨w.heap.size + 1, 0, none⟩ = some (.bool false) ∧ W.frozen? ⟨w.heap.size + 1, 0, none⟩ = false ∧ radB wire (-wire) pre = true ∧ Ext w W ∧ w3.heap.size ≤ W.heap.size)
    (fun c pre W => c = .ret ∧ W.cell? ⟨w.heap.size + 1, 0, none⟩ = some (.bool false) ∧ radB wire (-wire) pre = false ∧ Ext w W)
    ?hI ?hIx ⟨⟨-wire, rfl, ⟨by omega, by omega⟩, p3⟩, o3, n3, q3, g3, rfl, hX3, Nat.le_refl _⟩
    (fun x => { tmps := #[.agg #[.int .i64 eye, .int .i64 bull, .slice ra rings.length rc, .slice la lines.length lc, .slice na nums.length nc, .int .i64 wire], .pointer (some ⟨w.heap.size, 0, none⟩), .pointer (some ⟨w.heap.size + 1, 0, none⟩), .pointer (some ⟨w2.heap.size, 0, none⟩), .int .i64 x, .pointer (some ⟨w.heap.size, 2, none⟩), .slice ra rings.length rc, .int .i64 rings.length, .bool false, .bool false, .pointer (some ⟨w.heap.size, 5, none⟩), .int .i64 wire, .slice (some ⟨w.heap.size + 1 + 1, 0, none⟩) 1 1, .bool true, .bool false, .bool false, .bool false, .pointer (some ⟨w.heap.size, 2, none⟩), .slice ra rings.length rc, .bool false, .bool false, .pointer (some ⟨w.heap.size, 5, none⟩), .int .i64 wire, .int .i64 (-wire), .agg #[.int .i64 eye, .int .i64 bull, .slice ra rings.length rc, .slice la lines.length lc, .slice na nums.length nc, .int .i64 wire], .func (.func 106) #[] #[.pointer (some ⟨w2.heap.size + 1, 0, none⟩)], .int .i64 x, undef, undef, undef, undef, undef, undef, undef, undef, undef, undef, undef], defers := [] }) ?assign ?body ?done ?stop
  case hI =>
    rintro pre A B row ⟨⟨lst, e1, e2, e3⟩, e4, e5, e6, e7, e8, e9, e10⟩ hg hr
    have hr' := fun r e => (hr r e).2
    exact ⟨⟨lst, e1, e2, cell_kept e3 hg hr'⟩, (frozen_kept e3 hg hr').trans e4, cell_kept e5 hg hr', cell_kept e6 hg hr', (frozen_kept e6 hg hr').trans e7, e8, Below.grown e9 hg e9.size (fun k e => by have := (hr k e).1; omega), Nat.le_trans e10 hg.size⟩
  case hIx =>
    rintro c pre A B row ⟨e1, e2, e3, e4⟩ hg hr
    exact ⟨e1, cell_kept e2 hg (fun r e => (hr r e).2), e3, Below.grown e4 hg e4.size (fun k e => by have := (hr k e).1; omega)⟩
  case assign =>
    intro l x W K hK
    gi_wp2
    exact hK
  case body =>
    rintro l pre x W ⟨⟨lst, e1, ⟨e20, e21⟩, e3⟩, e4, e5, e6, e7, e8, e9, e10⟩ _
    have hk1 : w.heap.size < W.heap.size := by omega
    have hk2 : w.heap.size + 1 < W.heap.size := by omega
    have hk3 : w2.heap.size < W.heap.size := by omega
    have hsn := radB_snoc wire pre (-wire) x
    rw [← e1, e8, Bool.true_and] at hsn
    have HSN := Lib.hid hsn
    have HE1 := Lib.hid e1
    clear e1 hsn e8
    gi_wp2_with fail
    refine ⟨trivial, CallsIn.inRound l ((callsIn_wide.2 (brd_within_1 (lst + 2 * wire + 1) 5000 x W _ (by simp))).mono ?_)⟩
    rintro e W1 ⟨rfl, hx1⟩
    have hT := e9.trans hx1
    have e4' := hx1.frozen e3 e4
    have e7' := hx1.frozen e6 e7
    replace e3 := hx1.cell e3
    replace e5 := hx1.cell e5
    replace e6 := hx1.cell e6
    have hs1 := hx1.size
    have hk1' : w.heap.size < W1.heap.size := by omega
    have HX1 := Lib.hid hx1
    have HT := Lib.hid hT
    clear e4 e7 hx1 hT
    cases hin : ins (lst + 2 * wire + 1) 5000 [x]
    · rw [hin] at HSN
      gi_wp2
      exact ⟨HX1.out.others.trans (KeepsOthers.setCell _ _ _), rfl, World.cell?_setCell_same' _ _ _ (by rw [e6]; rfl), HSN.out, HT.out.setCell (p := ⟨w.heap.size + 1, 0, none⟩) (by simp) _⟩
    · rw [hin] at HSN
      obtain ⟨b1, b2⟩ := ins_one.1 hin
      gi_wp2
      refine ⟨HX1.out.others.trans (KeepsOthers.setCell _ _ _), fun k hk hne => ?_, ⟨x, by simp, ⟨by omega, by omega⟩, World.cell?_setCell_same' _ _ _ (by rw [e3]; rfl)⟩, ?_, ?_, ?_, ?_, HSN.out, HT.out.setCell (p := ⟨w2.heap.size, 0, none⟩) (by show w.heap.size ≤ w2.heap.size; omega) _, ?_⟩
      · exact (Below.heap_setCell W1 ⟨w2.heap.size, 0, none⟩ _ k hne).trans (Below.block HX1.out k (by omega))
      · rw [World.frozen?_setCell]; exact e4'
      · exact (World.cell?_of_block (Below.heap_setCell W1 ⟨w2.heap.size, 0, none⟩ _ w.heap.size (by show w.heap.size ≠ w2.heap.size; omega))).trans e5
      · exact (World.cell?_of_block (Below.heap_setCell W1 ⟨w2.heap.size, 0, none⟩ _ (w.heap.size + 1) (by show w.heap.size + 1 ≠ w2.heap.size; omega))).trans e6
      · rw [World.frozen?_setCell]; exact e7'
      · simp; omega
  case done =>
    rintro D xs W hD rfl ⟨⟨lst, e1, e2, e3⟩, e4, e5, e6, e7, e8, e9, e10⟩ hK
    have e : rb = true := by
      rw [← HRB.out]
      simp only [ringsB, h1, h2, Bool.not_false, e8, Bool.and_true, Bool.not_eq_true', List.isEmpty_eq_false_iff]
      intro hz
      exact h0 (by rw [hz]; rfl)
    subst e
    have hr := World.cell?_setCell_same' W ⟨w.heap.size + 1, 0, none⟩ (.bool true) (by rw [e6]; rfl)
    have hK' : (W.setCell ⟨w.heap.size + 1, 0, none⟩ (.bool true)).heap[D]? = some (.deferred (some [])) := (KeepsOthers.setCell W ⟨w.heap.size + 1, 0, none⟩ (.bool true)).same D _ hK rfl
    have hr' := cell_put hr hK' rfl (.deferred none)
    have hxR : Ext w ((W.setCell ⟨w.heap.size + 1, 0, none⟩ (.bool true)).putObj D (.deferred none)) := ext_put (e9.setCell (p := ⟨w.heap.size + 1, 0, none⟩) (by simp) _) (by omega) _
    have HR' := Lib.hid hr'
    have HK' := Lib.hid hK'
    have HXR := Lib.hid hxR
    clear hr hK' hr' hxR
    gi_wp2
    exact ret_m1 (v := .bool true) rfl HK'.out (by simp [results, Try.results75, go_sem, HR'.out]) ⟨rfl, HXR.out⟩
  case stop =>
    rintro D c pre W hD hp ⟨rfl, e2, e3, e4⟩ hK
    have e : rb = false := by
      rw [← HRB.out]
      obtain ⟨q, hq⟩ := hp
      have := radB_pre wire pre q (-wire) e3
      rw [hq] at this
      simp only [ringsB, this, Bool.and_false]
    subst e
    have hr' := cell_put e2 hK rfl (.deferred none)
    have hxR : Ext w (W.putObj D (.deferred none)) := ext_put e4 (by omega) _
    have HR' := Lib.hid hr'
    have HXR := Lib.hid hxR
    clear hr' hxR
    gi_wp2
    exact ret_m1 (v := .bool false) rfl hK (by simp [results, Try.results75, go_sem, HR'.out]) ⟨rfl, HXR.out⟩
end Go.Proofs.Ytpifdeglhalefaa
