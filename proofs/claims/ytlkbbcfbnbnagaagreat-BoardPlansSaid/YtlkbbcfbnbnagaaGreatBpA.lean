/-
  Package board: Beds, All.
-/
import Derived.Test.YtlkbbcfbnbnagaaGreatBoZ
namespace Go.Proofs.YtlkbbcfbnbnagaaGreat
open Go.RowKit Go.Shelf
attribute [local go_sem] Oper.semAt_some Later.cell Later.frozen run_makeMap_plain
def boxB (x : Bx) : Bool := ins (-5000) 5000 [x.x0, x.y0] && (ins (-5000) 5000 [x.x1, x.y1] && (decide (x.x0 ≤ x.x1) && decide (x.y0 ≤ x.y1)))
theorem boxB_ok {x : Bx} (h : boxB x = true) : x.ok := by
  unfold boxB at h
  rw [Bool.and_eq_true, Bool.and_eq_true, Bool.and_eq_true, decide_eq_true_eq, decide_eq_true_eq] at h
  obtain ⟨h1, h2, h3, h4⟩ := h
  have h1 := ins_two.1 h1
  have h2 := ins_two.1 h2
  exact ⟨⟨h1.1.1, h3, h2.1.2⟩, h1.2.1, h4, h2.2.2⟩
def boxN (x : Bx) : Int := (x.x1 - x.x0 + 1) * (x.y1 - x.y0 + 1)
def bedsR (b : Brd) (x : Bx) : List Int × Int := if errB b ≠ 0 then ([], errB b) else if boxB x = true then (if 2500 < boxN x then ([], 8) else (setL ((ptsL x).map (bedB b)), 0)) else ([], 2)
theorem size_c (a b : Int) (w : World) (ha : -5000 ≤ a ∧ a ≤ 5000) (hb : -5000 ≤ b ∧ b ≤ 5000) : Calls Tryz.prog 43 #[.agg #[.int .i64 a, .int .i64 b]] w fun e w' => e = .returned (.int .i64 (b - a + 1)) ∧ Ext w w' := by
  go_enter Tryz.func43, Tryz.ntmps43
  go_wp2
  go_ret
  exact ⟨rfl, (Ext.refl w).alloc _⟩
theorem points_c (x : Bx) (w : World) : Calls Tryz.prog 44 #[x.agg] w fun e w' => e = .returned (.func (.func 67) #[] #[.pointer (some ⟨w.heap.size, 0, none⟩)]) ∧ w' = w.alloc (.cells #[.int .i64 x.x0, .int .i64 x.x1, .int .i64 x.y0, .int .i64 x.y1] 71) := by
  obtain ⟨x0, x1, y0, y1⟩ := x
  unfold Bx.agg
  simp only
  go_enter Tryz.func44, Tryz.ntmps44
  go_wp2
  go_ret
  exact ⟨rfl, rfl⟩
theorem bedB_small {b : Brd} (hg : GoodB b) (d : Pt) : 0 ≤ bedB b d ∧ bedB b d < 500 := by
  unfold bedB
  split; · omega
  split; · omega
  split; · omega
  unfold bedOf
  split; · omega
  rename_i r hr
  split; · omega
  have hf := hg.fac r (List.mem_of_find?_eq_some hr)
  have hn : 0 ≤ b.nums.getD (secB b.lines d) 0 ∧ b.nums.getD (secB b.lines d) 0 ≤ 20 := by
    rw [List.getD_eq_getElem?_getD]
    cases hq : b.nums[secB b.lines d]? with
    | none => simp
    | some y =>
      have := hg.num y (List.mem_of_getElem? hq)
      simp only [Option.getD_some]
      omega
  omega
theorem enters_points1 : Enters Tryz.prog 67 := enters_of Tryz.func67 (by kernel_rfl) rfl
/-- A region that draws its order, inside the fence: it only reads, or its calls only make memory. -/
theorem wpIn_region_lat {n : Nat} {P : Program} {id : Nat} {Q : Exit → Act → World → Prop} {a : Act} {w : World} {l : List Oper} (hm : P.follows .mixedOrders = true) (hg : goodReg l.toArray a.tmps.size = true)
    (h : ∀ T, Stays T → Nonempty (LatT NoX w T) → wpQuiet P l.toArray (fun w' => ∃ x : LatT NoX w T, w' = x.toLat.world) (fun a' => ∀ w', Ext w w' → Q .normal a' w') l a) : (Code.region id l.toArray true).wpIn Fence.wide n P Q a w := by
  refine wpIn_region_ghost hm (fun w' => ∃ x : Lat NoX w, w' = x.world) (fun _ => false) (fun _ _ => True) (fun _ _ _ => True) hg (fun k h => by cases h) (fun _ _ _ _ _ h => h) (fun _ _ _ _ _ _ => trivial) ⟨Lat.of_ext NoX (Ext.refl w).drew, rfl⟩ (fun _ => undef) (fun k h => by cases h) trivial fun T hT hE u hu => ?_
  have e : (fun w' => (∃ x : Lat NoX w, w' = x.world) ∧ T w') = fun w' => ∃ x : LatT NoX w T, w' = x.toLat.world := funext fun w' => propext ⟨fun ⟨⟨x, hx⟩, ht⟩ => ⟨⟨x, hx ▸ ht⟩, hx⟩, fun ⟨x, hx⟩ => ⟨⟨x.toLat, hx⟩, hx ▸ x.stay⟩⟩
  rw [e]
  have := lx_quiet (P := P) (ops := l.toArray) (C := fun w' => ∃ x : Lat NoX w, w' = x.world) (D := fun w' => ∃ x : LatT NoX w T, w' = x.toLat.world) (NQ := fun _ => false) (R := fun _ _ => True) (G := fun _ _ _ => True) (u := u)
    (Fin := fun a => ∀ w', (∃ x : Lat NoX w, w' = x.world) → True → Q .normal a w') l (i := 0) (rest := []) (a := a) (fun _ _ => rfl) (wpQuiet_mono' (fun a' ha => ?_) l a (h T hT (let ⟨_, ⟨x, hx⟩, ht⟩ := hE; ⟨⟨x, hx ▸ ht⟩⟩)))
  · rwa [List.append_nil] at this
  · show Lx _ _ _ _ _ _ _ _ _ _ [] a'
    refine lx_nil ?_
    rintro w' ⟨x, rfl⟩ _
    exact ha _ (Chg.to_ext (Ext.refl w) (Lat.chg x) (by rintro i ⟨o, h⟩; exact h.elim))
set_option maxRecDepth 100000 in
set_option maxHeartbeats 4000000 in
theorem brd_Beds (v : BrdV) (b : Brd) (x : Bx) (w : World) (h : BrdAt w v b) (hs : SmallB b) :
    Calls Tryz.prog 27 #[.agg (v.cells b), x.agg] w fun e w' => ∃ u, e = .returned (.tuple #[u, .int .i64 (bedsR b x).2]) ∧ OwnD w' w.heap.size u (bedsR b x).1 ∧ Ext w w' := by
  refine (callsIn_wide (n := 8)).1 ?_
  have HO := Lib.hid (fun W (hx : Ext w W) => brd_open v b W (h.ext hx) hs)
  have HG := Lib.hid (errB_good hs)
  have HB := Lib.hid h
  obtain ⟨q0, q1, hr⟩ : ∃ q0 q1, bedsR b x = (q0, q1) := ⟨_, _, rfl⟩
  have HR := Lib.hid hr
  rw [hr]
  obtain ⟨er, herr⟩ : ∃ er, errB b = er := ⟨_, rfl⟩
  rw [herr] at HO
  have HER := Lib.hid herr
  have hcell : v.cells b = #[.int .i64 b.eye, .int .i64 b.bull, .slice v.ra b.rings.length v.rc, .slice v.la b.lines.length v.lc, .slice v.na b.nums.length v.nc, .int .i64 b.wire] := rfl
  obtain ⟨eye, bull, rings, lines, nums, wire⟩ := b
  obtain ⟨ra, la, na, rc, lc, nc⟩ := v
  obtain ⟨x0, x1, y0, y1⟩ := x
  unfold BrdV.cells Bx.agg at *
  simp only at HO ⊢
  clear h hs hr herr hcell
  refine callsIn_of_wp_marks Tryz.func27 rfl trivial ?_ rfl
  simp only [Tryz.ntmps27, List.size_toArray, List.length_cons, List.length_nil, Nat.reduceAdd, Nat.reduceSub, Array.replicate_succ, Array.replicate_zero, List.push_toArray, List.append_toArray, List.nil_append, List.cons_append]
  gi_wp2_with fail
  refine ⟨trivial, (callsIn_wide.2 (HO.out _ (((Ext.refl w).alloc _).alloc _))).mono ?_⟩
  rintro e w1 ⟨rfl, hx1⟩
  have HX1 := Lib.hid ((((Ext.refl w).alloc (.cells #[.int .i64 eye, .int .i64 bull, .slice ra rings.length rc, .slice la lines.length lc, .slice na nums.length nc, .int .i64 wire] 26)).alloc (.cells #[.int .i64 x0, .int .i64 x1, .int .i64 y0, .int .i64 y1] 71)).trans hx1)
  have hbx : Blk w1 (w.heap.size + 1) #[.int .i64 x0, .int .i64 x1, .int .i64 y0, .int .i64 y1] := (Blk.at _ (by simp)).ext hx1
  have HBX := Lib.hid hbx
  have b0 := hbx.cell 0 (v := .int .i64 x0) rfl
  have b1 := hbx.cell 1 (v := .int .i64 x1) rfl
  have b2 := hbx.cell 2 (v := .int .i64 y0) rfl
  have b3 := hbx.cell 3 (v := .int .i64 y1) rfl
  have hbl := hbx.lt
  have HT1 := Lib.hid (Blk.new w1 #[.int .i64 eye, .int .i64 bull, .slice ra rings.length rc, .slice la lines.length lc, .slice na nums.length nc, .int .i64 wire] 74)
  clear hx1 hbx
  by_cases h0 : er = 0
  case neg =>
    have e : (q0, q1) = ([], er) := by rw [← HR.out]; unfold bedsR; rw [HER.out, if_pos h0]
    obtain ⟨rfl, rfl⟩ : q0 = [] ∧ q1 = er := by simpa using e
    have h0' : (q1 != 0) = true := by simpa using h0
    clear e
    gi_wp2
    exact ret_m (v := .tuple #[.slice none 0 0, .int .i64 q1]) rfl (by simp [results, Tryz.results27, go_sem]) ⟨_, rfl, World.ownsRow_nil _ _ _ _, HX1.out.alloc _⟩
  subst h0
  have hR0 : (q0, q1) = if boxB ⟨x0, x1, y0, y1⟩ = true then (if 2500 < boxN ⟨x0, x1, y0, y1⟩ then (([] : List Int), (8 : Int)) else (setL ((ptsL ⟨x0, x1, y0, y1⟩).map (bedB ⟨eye, bull, rings, lines, nums, wire⟩)), 0)) else ([], 2) := by rw [← HR.out]; unfold bedsR; rw [HER.out, if_neg (by simp)]
  have HR0 := Lib.hid hR0
  clear hR0
  gi_wp2_with fail
  refine ⟨trivial, (callsIn_wide.2 (brd_isPoint ⟨x0, y0⟩ _)).mono ?_⟩
  rintro e w2 ⟨rfl, hx2⟩
  have hx2' := ((Ext.refl w1).alloc (.cells #[.int .i64 eye, .int .i64 bull, .slice ra rings.length rc, .slice la lines.length lc, .slice na nums.length nc, .int .i64 wire] 74)).trans hx2
  have HX2 := Lib.hid (HX1.out.trans hx2')
  replace b0 := hx2'.cell b0
  replace b1 := hx2'.cell b1
  replace b2 := hx2'.cell b2
  replace b3 := hx2'.cell b3
  have hs2 := hx2'.size
  have HT2 := Lib.hid (HT1.out.ext hx2)
  replace hbl : w.heap.size + 1 < w2.heap.size := lt_of_cell b0
  have HBX2 := Lib.hid (HBX.out.ext hx2')
  clear hx2 hx2'
  simp only
  cases hp1 : ins (-5000) 5000 [x0, y0]
  · have e := HR0.out
    rw [if_neg (by simp [boxB, hp1])] at e
    obtain ⟨rfl, rfl⟩ : q0 = [] ∧ q1 = 2 := by simpa using e
    clear e
    gi_wp2
    exact ret_m (v := .tuple #[.slice none 0 0, .int .i64 2]) rfl (by simp [results, Tryz.results27, go_sem]) ⟨_, rfl, World.ownsRow_nil _ _ _ _, HX2.out⟩
  gi_wp2_with fail
  refine ⟨trivial, (callsIn_wide.2 (brd_isPoint ⟨x1, y1⟩ _)).mono ?_⟩
  rintro e w3 ⟨rfl, hx3⟩
  have HX3 := Lib.hid (HX2.out.trans hx3)
  replace b0 := hx3.cell b0
  replace b1 := hx3.cell b1
  replace b2 := hx3.cell b2
  replace b3 := hx3.cell b3
  have hs3 := hx3.size
  have HT3 := Lib.hid (HT2.out.ext hx3)
  replace hbl : w.heap.size + 1 < w3.heap.size := lt_of_cell b0
  have HBX3 := Lib.hid (HBX2.out.ext hx3)
  clear hx3
  simp only
  cases hp2 : ins (-5000) 5000 [x1, y1]
  · have e := HR0.out
    rw [if_neg (by simp [boxB, hp1, hp2])] at e
    obtain ⟨rfl, rfl⟩ : q0 = [] ∧ q1 = 2 := by simpa using e
    clear e
    gi_wp2
    exact ret_m (v := .tuple #[.slice none 0 0, .int .i64 2]) rfl (by simp [results, Tryz.results27, go_sem]) ⟨_, rfl, World.ownsRow_nil _ _ _ _, HX3.out⟩
  by_cases hp3 : x0 ≤ x1
  case neg =>
    have e := HR0.out
    rw [if_neg (by simp [boxB, hp1, hp2, hp3])] at e
    obtain ⟨rfl, rfl⟩ : q0 = [] ∧ q1 = 2 := by simpa using e
    have hp3' : decide (x1 < x0) = true := by simp; omega
    clear e
    gi_wp2
    exact ret_m (v := .tuple #[.slice none 0 0, .int .i64 2]) rfl (by simp [results, Tryz.results27, go_sem]) ⟨_, rfl, World.ownsRow_nil _ _ _ _, HX3.out⟩
  by_cases hp4 : y0 ≤ y1
  case neg =>
    have e := HR0.out
    rw [if_neg (by simp [boxB, hp1, hp2, hp4])] at e
    obtain ⟨rfl, rfl⟩ : q0 = [] ∧ q1 = 2 := by simpa using e
    have hp3' : decide (x1 < x0) = false := by simp; omega
    have hp4' : decide (y1 < y0) = true := by simp; omega
    clear e
    gi_wp2
    exact ret_m (v := .tuple #[.slice none 0 0, .int .i64 2]) rfl (by simp [results, Tryz.results27, go_sem]) ⟨_, rfl, World.ownsRow_nil _ _ _ _, HX3.out⟩
  have hp3' : decide (x1 < x0) = false := by simp; omega
  have hp4' : decide (y1 < y0) = false := by simp; omega
  have hbb : boxB ⟨x0, x1, y0, y1⟩ = true := by simp [boxB, hp1, hp2, hp3, hp4]
  have hok := boxB_ok hbb
  have hR1 := HR0.out
  rw [if_pos hbb] at hR1
  have HR1 := Lib.hid hR1
  obtain ⟨⟨a1, a2, a3⟩, a4, a5, a6⟩ := hok
  simp only at a1 a2 a3 a4 a5 a6
  have HOK := Lib.hid (boxB_ok hbb)
  clear hbb hR1
  gi_upto_region 9 with fail
  have y0' : ∀ y : Lat NoX w3, y.world.cell? ⟨w.heap.size + 1, 0, none⟩ = some _ := fun y => (Lat.ext0 y).cell b0
  have y1' : ∀ y : Lat NoX w3, y.world.cell? ⟨w.heap.size + 1, 1, none⟩ = some _ := fun y => (Lat.ext0 y).cell b1
  have y2' : ∀ y : Lat NoX w3, y.world.cell? ⟨w.heap.size + 1, 2, none⟩ = some _ := fun y => (Lat.ext0 y).cell b2
  have y3' : ∀ y : Lat NoX w3, y.world.cell? ⟨w.heap.size + 1, 3, none⟩ = some _ := fun y => (Lat.ext0 y).cell b3
  have hm1 := mul_bound (a := x1 - x0 + 1) (b := y1 - y0 + 1) (m := 10001) (n := 10001) (by omega) (by omega)
  refine wpIn_region_lat (by kernel_rfl) (by kernel_rfl) ?_
  intro T hT hne
  repeat (go_big_quiet_step (first | with_reducible refine Calls.lat hT (size_c x0 x1 _ (by omega) (by omega)) | with_reducible refine Calls.lat hT (size_c y0 y1 _ (by omega) (by omega))))
  refine wpQuiet_nil ?_
  intro w4 hx4
  clear y0' y1' y2' y3'
  have HX4 := Lib.hid (HX3.out.trans hx4)
  have HT4 := Lib.hid (HT3.out.ext hx4)
  have HBX4 := Lib.hid (HBX3.out.ext hx4)
  replace b0 := hx4.cell b0
  replace b1 := hx4.cell b1
  replace b2 := hx4.cell b2
  replace b3 := hx4.cell b3
  replace hbl : w.heap.size + 1 < w4.heap.size := lt_of_cell b0
  have hs4 := hx4.size
  have hBN : boxN ⟨x0, x1, y0, y1⟩ = (x1 - x0 + 1) * (y1 - y0 + 1) := rfl
  have HBN := Lib.hid hBN
  clear hx4 hBN
  by_cases hbig : 2500 < (x1 - x0 + 1) * (y1 - y0 + 1)
  · have e := HR1.out
    rw [HBN.out, if_pos hbig] at e
    obtain ⟨rfl, rfl⟩ : q0 = [] ∧ q1 = 8 := by simpa using e
    clear e
    gi_wp2
    exact ret_m (v := .tuple #[.slice none 0 0, .int .i64 8]) rfl (by simp [results, Tryz.results27, go_sem]) ⟨_, rfl, World.ownsRow_nil _ _ _ _, HX4.out⟩
  have e := HR1.out
  rw [HBN.out, if_neg hbig] at e
  obtain ⟨hq0, rfl⟩ : q0 = setL ((ptsL ⟨x0, x1, y0, y1⟩).map (bedB ⟨eye, bull, rings, lines, nums, wire⟩)) ∧ q1 = 0 := by simpa using e
  have HQ0 := Lib.hid hq0
  clear e hq0
  gi_upto_region 12 with fail
  obtain ⟨w5, hw5⟩ : ∃ x, x = (w4.alloc (.map #[] 0)).alloc (.cells #[.map (some w4.heap.size)] 92) := ⟨_, rfl⟩
  rw [← hw5]
  have hx45 : Ext w4 w5 := by rw [hw5]; exact ((Ext.refl w4).alloc _).alloc _
  have hsb : Blk w5 (w4.heap.size + 1) #[.map (some w4.heap.size)] := by rw [hw5]; exact Blk.at _ (by simp)
  have hsd : SetD w5 w4.heap.size [] := by rw [hw5]; exact (SetD.made rfl).ext ((Ext.refl _).alloc _)
  have hs5 : w5.heap.size = w4.heap.size + 1 + 1 := by rw [hw5]; simp
  replace b0 := hx45.cell b0
  replace b1 := hx45.cell b1
  replace b2 := hx45.cell b2
  replace b3 := hx45.cell b3
  replace hbl : w.heap.size + 1 < w5.heap.size := lt_of_cell b0
  have HX5 := Lib.hid (HX4.out.trans hx45)
  have HT5 := Lib.hid (HT4.out.ext hx45)
  have HSB := Lib.hid hsb
  have HSD := Lib.hid hsd
  have hs5' : w4.heap.size + 1 < w5.heap.size := by omega
  clear hw5 hx45 hsb hsd hs5
  have hpc := points_c ⟨x0, x1, y0, y1⟩ w5
  unfold Bx.agg at hpc
  gi_wp2_with fail
  refine ⟨trivial, (callsIn_wide.2 hpc).mono ?_⟩
  rintro e w6 ⟨rfl, hw6⟩
  gi_wp2_with fail
  rw [← hw6]
  have hx56 : Ext w5 w6 := by rw [hw6]; exact (Ext.refl w5).alloc _
  have hs6 : w6.heap.size = w5.heap.size + 1 := by rw [hw6]; simp
  have hbq : Blk w6 w5.heap.size #[.int .i64 x0, .int .i64 x1, .int .i64 y0, .int .i64 y1] := by rw [hw6]; exact Blk.new _ _ _
  have HX6 := Lib.hid (HX5.out.trans hx56)
  have HT6 := Lib.hid (HT5.out.ext hx56)
  have HSB6 := Lib.hid (HSB.out.ext hx56)
  have HSD6 := Lib.hid (HSD.out.ext hx56)
  have hs6' : w5.heap.size < w6.heap.size := by omega
  have hseq : SeqV 7 Tryz.prog 67 #[.pointer (some ⟨w5.heap.size, 0, none⟩)] (fun p : Pt => #[p.agg]) (fun pre p _ => p.ok ∧ pre.length < (ptsL ⟨x0, x1, y0, y1⟩).length) (Kc S0) (fun xs => xs = ptsL ⟨x0, x1, y0, y1⟩) w6 :=
    points1_seq 7 w5.heap.size ⟨x0, x1, y0, y1⟩ w6 hbq HOK.out S0 id
  have HSEQ := Lib.hid hseq
  have hpn : (ptsL ⟨x0, x1, y0, y1⟩).length ≤ 2500 := by
    have h1 : (ptsL ⟨x0, x1, y0, y1⟩).length = (x1 - x0 + 1).toNat * (y1 - y0 + 1).toNat := ptsTo_len _ _
    have h2 : (((x1 - x0 + 1).toNat * (y1 - y0 + 1).toNat : Nat) : Int) = (x1 - x0 + 1) * (y1 - y0 + 1) := by
      rw [Int.natCast_mul, Int.toNat_of_nonneg (by omega), Int.toNat_of_nonneg (by omega)]
    omega
  have HPN0 := Lib.hid hpn
  clear hw6 hx56 hs6 hbq hseq b0 b1 b2 b3 hpc hpn
  have hw1 : w.heap.size + 1 < w1.heap.size := HBX.out.lt
  refine wpIn_rangeFunc_v (α := Pt) (by decide) (gf := 67) (lb := #[.pointer (some ⟨w5.heap.size, 0, none⟩)]) rfl enters_points1 HSEQ.out Kc.trans (fun W l o o' _ h ho _ => Kc.put S0 W l o o' h ho) (fun _ => rfl)
    (fun pre W => SetD W w4.heap.size (pre.map (bedB ⟨eye, bull, rings, lines, nums, wire⟩)) ∧ Chg (· = w4.heap.size) w6 W) ?hI ?hV ?h0
    (fun p a' W => ∃ pb, w6.heap.size ≤ pb ∧ Blk W pb #[.int .i64 p.x, .int .i64 p.y] ∧ p.ok ∧ a' = { tmps := #[.agg #[.int .i64 eye, .int .i64 bull, .slice ra rings.length rc, .slice la lines.length lc, .slice na nums.length nc, .int .i64 wire], .agg #[.int .i64 x0, .int .i64 x1, .int .i64 y0, .int .i64 y1], .pointer (some ⟨w.heap.size, 0, none⟩), .pointer (some ⟨w.heap.size + 1, 0, none⟩), .slice none 0 0, .int .i64 0, .pointer (some ⟨w1.heap.size, 0, none⟩), .int .i64 0, .pointer (some ⟨w4.heap.size + 1, 0, none⟩), .pointer (some ⟨pb, 0, none⟩), undef, undef, .tuple #[.agg #[.int .i64 eye, .int .i64 bull, .slice ra rings.length rc, .slice la lines.length lc, .slice na nums.length nc, .int .i64 wire], .int .i64 0], .agg #[.int .i64 eye, .int .i64 bull, .slice ra rings.length rc, .slice la lines.length lc, .slice na nums.length nc, .int .i64 wire], .tuple #[.agg #[.int .i64 eye, .int .i64 bull, .slice ra rings.length rc, .slice la lines.length lc, .slice na nums.length nc, .int .i64 wire], .int .i64 0], .agg #[.int .i64 eye, .int .i64 bull, .slice ra rings.length rc, .slice la lines.length lc, .slice na nums.length nc, .int .i64 wire], .int .i64 0, .bool false, .int .i64 0, .bool false, undef, .bool false, .pointer (some ⟨w.heap.size + 1, 0, none⟩), .pointer (some ⟨w.heap.size + 1, 0, none⟩), .int .i64 x0, .pointer (some ⟨w.heap.size + 1, 2, none⟩), .pointer (some ⟨w.heap.size + 1, 2, none⟩), .int .i64 y0, .agg #[.int .i64 x0, .int .i64 y0], .bool true, .bool false, .pointer (some ⟨w.heap.size + 1, 0, none⟩), .pointer (some ⟨w.heap.size + 1, 1, none⟩), .int .i64 x1, .pointer (some ⟨w.heap.size + 1, 2, none⟩), .pointer (some ⟨w.heap.size + 1, 3, none⟩), .int .i64 y1, .agg #[.int .i64 x1, .int .i64 y1], .bool true, .bool false, .pointer (some ⟨w.heap.size + 1, 0, none⟩), .pointer (some ⟨w.heap.size + 1, 0, none⟩), .int .i64 x0, .pointer (some ⟨w.heap.size + 1, 0, none⟩), .pointer (some ⟨w.heap.size + 1, 1, none⟩), .int .i64 x1, .bool false, .pointer (some ⟨w.heap.size + 1, 2, none⟩), .pointer (some ⟨w.heap.size + 1, 2, none⟩), .int .i64 y0, .pointer (some ⟨w.heap.size + 1, 2, none⟩), .pointer (some ⟨w.heap.size + 1, 3, none⟩), .int .i64 y1, .bool false, .bool (decide (2500 < (x1 - x0 + 1) * (y1 - y0 + 1))), .pointer (some ⟨w.heap.size + 1, 0, none⟩), .agg #[.int .i64 x0, .int .i64 x1], .int .i64 (x1 - x0 + 1), .pointer (some ⟨w.heap.size + 1, 2, none⟩), .agg #[.int .i64 y0, .int .i64 y1], .int .i64 (y1 - y0 + 1), .int .i64 ((x1 - x0 + 1) * (y1 - y0 + 1)), .bool (decide (2500 < (x1 - x0 + 1) * (y1 - y0 + 1))), .map (some w4.heap.size), .agg #[.int .i64 x0, .int .i64 x1, .int .i64 y0, .int .i64 y1], .func (.func 67) #[] #[.pointer (some ⟨w5.heap.size, 0, none⟩)], .agg #[.int .i64 p.x, .int .i64 p.y], undef, undef, undef, undef, undef, undef, undef, undef, undef, undef, undef], defers := [] }) ?hAx ?assign ?body ?done
  case hI =>
    rintro pre A B row ⟨h1, h2⟩ hg hr
    refine ⟨h1.heap fun o ho => (hg.block _ h1.lt (fun e => ?_)).trans ho, h2.grown hg fun k e => (hr k e).1⟩
    have := (hr _ e.symm).1
    omega
  case hV =>
    rintro pre x u A B row h1 hg hr
    exact h1
  case h0 => exact ⟨HSD6.out, Chg.refl _ _⟩
  case hAx =>
    rintro x a' u A B row ⟨pb, h1, h2, h3⟩ hg hr
    exact ⟨pb, h1, (Kc.grown (S := S0) hg fun r e => (hr r e).2).blk h2 id, h3⟩
  case assign =>
    intro l pre x W K hi hv hK
    obtain ⟨px, py⟩ := x
    have hB0 : Blk (W.alloc (.cells #[.int .i64 px, .int .i64 py] 90)) W.heap.size #[.int .i64 px, .int .i64 py] := Blk.new _ _ _
    have hX := (Ext.refl W).alloc (.cells #[.int .i64 px, .int .i64 py] 90)
    have HK2 := Lib.hid (hK { tmps := #[.agg #[.int .i64 eye, .int .i64 bull, .slice ra rings.length rc, .slice la lines.length lc, .slice na nums.length nc, .int .i64 wire], .agg #[.int .i64 x0, .int .i64 x1, .int .i64 y0, .int .i64 y1], .pointer (some ⟨w.heap.size, 0, none⟩), .pointer (some ⟨w.heap.size + 1, 0, none⟩), .slice none 0 0, .int .i64 0, .pointer (some ⟨w1.heap.size, 0, none⟩), .int .i64 0, .pointer (some ⟨w4.heap.size + 1, 0, none⟩), .pointer (some ⟨W.heap.size, 0, none⟩), undef, undef, .tuple #[.agg #[.int .i64 eye, .int .i64 bull, .slice ra rings.length rc, .slice la lines.length lc, .slice na nums.length nc, .int .i64 wire], .int .i64 0], .agg #[.int .i64 eye, .int .i64 bull, .slice ra rings.length rc, .slice la lines.length lc, .slice na nums.length nc, .int .i64 wire], .tuple #[.agg #[.int .i64 eye, .int .i64 bull, .slice ra rings.length rc, .slice la lines.length lc, .slice na nums.length nc, .int .i64 wire], .int .i64 0], .agg #[.int .i64 eye, .int .i64 bull, .slice ra rings.length rc, .slice la lines.length lc, .slice na nums.length nc, .int .i64 wire], .int .i64 0, .bool false, .int .i64 0, .bool false, undef, .bool false, .pointer (some ⟨w.heap.size + 1, 0, none⟩), .pointer (some ⟨w.heap.size + 1, 0, none⟩), .int .i64 x0, .pointer (some ⟨w.heap.size + 1, 2, none⟩), .pointer (some ⟨w.heap.size + 1, 2, none⟩), .int .i64 y0, .agg #[.int .i64 x0, .int .i64 y0], .bool true, .bool false, .pointer (some ⟨w.heap.size + 1, 0, none⟩), .pointer (some ⟨w.heap.size + 1, 1, none⟩), .int .i64 x1, .pointer (some ⟨w.heap.size + 1, 2, none⟩), .pointer (some ⟨w.heap.size + 1, 3, none⟩), .int .i64 y1, .agg #[.int .i64 x1, .int .i64 y1], .bool true, .bool false, .pointer (some ⟨w.heap.size + 1, 0, none⟩), .pointer (some ⟨w.heap.size + 1, 0, none⟩), .int .i64 x0, .pointer (some ⟨w.heap.size + 1, 0, none⟩), .pointer (some ⟨w.heap.size + 1, 1, none⟩), .int .i64 x1, .bool false, .pointer (some ⟨w.heap.size + 1, 2, none⟩), .pointer (some ⟨w.heap.size + 1, 2, none⟩), .int .i64 y0, .pointer (some ⟨w.heap.size + 1, 2, none⟩), .pointer (some ⟨w.heap.size + 1, 3, none⟩), .int .i64 y1, .bool false, .bool (decide (2500 < (x1 - x0 + 1) * (y1 - y0 + 1))), .pointer (some ⟨w.heap.size + 1, 0, none⟩), .agg #[.int .i64 x0, .int .i64 x1], .int .i64 (x1 - x0 + 1), .pointer (some ⟨w.heap.size + 1, 2, none⟩), .agg #[.int .i64 y0, .int .i64 y1], .int .i64 (y1 - y0 + 1), .int .i64 ((x1 - x0 + 1) * (y1 - y0 + 1)), .bool (decide (2500 < (x1 - x0 + 1) * (y1 - y0 + 1))), .map (some w4.heap.size), .agg #[.int .i64 x0, .int .i64 x1, .int .i64 y0, .int .i64 y1], .func (.func 67) #[] #[.pointer (some ⟨w5.heap.size, 0, none⟩)], .agg #[.int .i64 px, .int .i64 py], undef, undef, undef, undef, undef, undef, undef, undef, undef, undef, undef], defers := [] } _ (hX.others.from _) (.of_ext hX) ⟨hi.1.ext hX, hi.2.ext' hX⟩ hv ⟨W.heap.size, hi.2.size, hB0, hv.1, rfl⟩)
    clear hK hi hv hX hB0
    unfold Pt.agg
    simp only
    gi_wp2
    exact HK2.out
  case body =>
    rintro l pre x a' W ⟨hb, hc⟩ hv ⟨pb, hpb, hpB, hpo, rfl⟩
    obtain ⟨px, py⟩ := x
    have hlen := hv.2
    have HPN := Lib.hid (Nat.lt_of_lt_of_le hlen HPN0.out)
    have htb := HT6.out.chg hc (by have := HT4.out.lt; show ¬ (w1.heap.size = w4.heap.size); omega)
    have hsb := HSB6.out.chg hc (by show ¬ (w4.heap.size + 1 = w4.heap.size); omega)
    have HB6 := Lib.hid (HB.out.ext (Chg.to_ext HX6.out hc (by intro i hi; have := HX4.out.size; omega)))
    have HSET := Lib.hid hb
    have HC := Lib.hid hc
    have HPO := Lib.hid hpo
    have p0 := hpB.cell 0 (v := .int .i64 px) rfl
    have p1 := hpB.cell 1 (v := .int .i64 py) rfl
    have hpl := hpB.lt
    have m0 := htb.cell 0 (v := .int .i64 eye) rfl
    have m1 := htb.cell 1 (v := .int .i64 bull) rfl
    have m2 := htb.cell 2 (v := .slice ra rings.length rc) rfl
    have m3 := htb.cell 3 (v := .slice la lines.length lc) rfl
    have m4 := htb.cell 4 (v := .slice na nums.length nc) rfl
    have m5 := htb.cell 5 (v := .int .i64 wire) rfl
    have hml := htb.lt
    have s0 := hsb.cell 0 (v := .map (some w4.heap.size)) rfl
    have hsl := hsb.lt
    clear hv hb hc htb hsb hpB hpo
    gi_wp2_with fail
    refine ⟨trivial, CallsIn.inRound l ((callsIn_wide.2 (brd_bed ⟨ra, la, na, rc, lc, nc⟩ ⟨eye, bull, rings, lines, nums, wire⟩ ⟨px, py⟩ W HB6.out (HG.out (by trivial)) HPO.out)).mono ?_)⟩
    rintro e W1 ⟨rfl, hx1⟩
    have hbs := bedB_small (HG.out (by trivial)) ⟨px, py⟩
    have hmap : (pre ++ [(⟨px, py⟩ : Pt)]).map (bedB ⟨eye, bull, rings, lines, nums, wire⟩) = pre.map (bedB ⟨eye, bull, rings, lines, nums, wire⟩) ++ [bedB ⟨eye, bull, rings, lines, nums, wire⟩ ⟨px, py⟩] := by rw [List.map_append]; rfl
    have HMAP := Lib.hid hmap
    have hml' : (pre.map (bedB ⟨eye, bull, rings, lines, nums, wire⟩)).length ≤ 1000000 := by
      rw [List.length_map]
      have := HPN.out
      omega
    have HML := Lib.hid hml'
    have HS1 := Lib.hid (HSET.out.ext hx1)
    have HX1' := Lib.hid hx1
    have s1 := hx1.cell s0
    have hsl1 := lt_of_cell s1
    clear hmap hml'
    generalize bedB ⟨eye, bull, rings, lines, nums, wire⟩ ⟨px, py⟩ = bd at *
    generalize onWire ⟨eye, bull, rings, lines, nums, wire⟩ ⟨px, py⟩ = ow at *
    obtain ⟨pl, hpl⟩ : ∃ pl, pre.map (bedB ⟨eye, bull, rings, lines, nums, wire⟩) = pl := ⟨_, rfl⟩
    rw [hpl] at HMAP HML HS1
    clear hpl m0 m1 m2 m3 m4 m5 p0 p1 s0 hx1 hlen
    gi_wp2_with (gi_at_mapUpdate; refine wpIn_addD rfl _ _ _ rfl w4.heap.size pl bd rfl HS1.out HML.out ⟨by omega, by omega⟩ rfl rfl ?_)
    intro w' hS2 hg2
    have hobj : ∃ o : Obj, W1.heap[w4.heap.size]? = some o ∧ o.isCells = false := by
      obtain ⟨n, D, ⟨es, clock, hb, -⟩, -⟩ := HS1.out
      exact ⟨_, hb, rfl⟩
    have HF := Lib.hid (show KeepsFrom w6.heap.size W w' ∧ Kc S0 W w' ∧ SetD w' w4.heap.size ((pre ++ [(⟨px, py⟩ : Pt)]).map (bedB ⟨eye, bull, rings, lines, nums, wire⟩)) ∧ Chg (· = w4.heap.size) w6 w' from
      ⟨(HX1'.out.others.from _).trans (KeepsFrom.of_grownBy hg2 (fun j e => by cases e; omega)), (Kc.of_ext HX1'.out).trans (Kc.grown hg2 fun r e => by cases e; exact hobj), by rw [HMAP.out]; exact hS2, (HC.out.ext' HX1'.out).trans ((grown_chg hg2).mono fun k _ e => by cases e; rfl)⟩)
    clear hS2 hg2 hobj
    gi_wp2
    refine ⟨HF.out.1, HF.out.2.1, ?_, HF.out.2.2.2⟩
    have hfin := HF.out.2.2.1
    rw [List.map_append] at hfin
    exact hfin
  case done =>
    rintro D xs W hD rfl ⟨hb, hc⟩ hK
    have hsb := HSB6.out.chg hc (by show ¬ (w4.heap.size + 1 = w4.heap.size); omega)
    have s0 := hsb.cell 0 (v := .map (some w4.heap.size)) rfl
    have hsl := hsb.lt
    have HXW := Lib.hid (Chg.to_ext HX6.out hc (by intro i hi; have := HX4.out.size; omega))
    have HSO := Lib.hid (sorted_call w4.heap.size ((ptsL ⟨x0, x1, y0, y1⟩).map (bedB ⟨eye, bull, rings, lines, nums, wire⟩)) W hb (by rw [List.length_map]; have := HPN0.out; omega) (fun y hy => by
      obtain ⟨p, -, rfl⟩ := List.mem_map.1 hy
      exact bedB_small (HG.out (by trivial)) p))
    rw [← HQ0.out] at HSO
    have HK := Lib.hid hK
    clear hb hc hsb hK
    gi_wp2_with fail
    refine ⟨trivial, (callsIn_wide.2 (keys_call (some w4.heap.size) W)).mono ?_⟩
    rintro e W1 ⟨rfl, rfl⟩
    gi_wp2_with fail
    refine ⟨trivial, (callsIn_wide.2 HSO.out).mono ?_⟩
    rintro e W2 ⟨u, rfl, hO, hx2⟩
    have hDl : W2.heap[D]? = some (.deferred (some [])) := by
      have hlt := (Array.getElem?_eq_some_iff.1 HK.out).1
      exact (Below.block hx2 D hlt).trans HK.out
    have HO2 := Lib.hid (show OwnD (W2.putObj D (.deferred none)) w.heap.size u q0 from own_mono (own_chg hO (S := fun k => k = D) (grown_chg (grownBy_putObj' W2 D (.deferred none)) |>.mono fun k _ e => by cases e; rfl) (fun k hk e => by
      subst e
      obtain ⟨-, h | ⟨g, cap, cur, e1, -, h3, -⟩⟩ := hO
      · rw [h.1] at hk; cases hk
      · rw [e1] at hk; cases hk; rw [hDl] at h3; cases h3)) HXW.out.size)
    obtain ⟨ua, uc, rfl, -⟩ := hO.cells
    have HX2 := Lib.hid (ext_put (HXW.out.trans hx2) (by omega) (.deferred none) (D := D))
    have HDL := Lib.hid hDl
    clear hO hx2 hDl
    gi_wp2
    exact ret_m1 (v := .tuple #[.slice ua q0.length uc, .int .i64 0]) rfl HDL.out (by simp [results, Tryz.results27, go_sem]) ⟨_, rfl, HO2.out, HX2.out⟩
end Go.Proofs.YtlkbbcfbnbnagaaGreat
