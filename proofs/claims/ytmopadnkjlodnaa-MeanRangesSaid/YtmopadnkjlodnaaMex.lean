/-
  Package mean: extents; a visit is added.
-/
import Derived.Test.YtmopadnkjlodnaaMpp
import Derived.Test.YtmopadnkjlodnaaSen
import Derived.LaidEqlPtr
import Derived.WideMake
import Derived.Deep.DeepCutAuto
import Derived.Deep.CutBlock
namespace Go.Proofs.Ytmopadnkjlodnaa
open Go.RowKit Go.BigFrame
attribute [local go_sem] Later.cell Later.frozen Lat.cell Lat.frozen run_makeMap_plain
/-- The spans of some visits. -/
structure Ex where
  dl : Int
  dh : Int
  tl : Int
  th : Int
  some : Bool
def Ex.cells (x : Ex) : Array Value := #[.int .i64 x.dl, .int .i64 x.dh, .int .i64 x.tl, .int .i64 x.th, .bool x.some]
def Ex.agg (x : Ex) : Value := .agg x.cells
def addX (x : Ex) (d t : Int) : Ex := if x.some = true then ⟨min x.dl d, max x.dh d, min x.tl t, max x.th t, true⟩ else ⟨d, d, t, t, true⟩
inductive Sp
  | d
  | t
  deriving DecidableEq
def spK (k : Nat) : Sp → Value
  | .d => .pointer (some ⟨k, 0, none⟩)
  | .t => .pointer (some ⟨k, 2, none⟩)
def isCells (k : Nat) (w : World) : Prop := ∃ cs t, w.heap[k]? = some (.cells cs t (0, 0))
theorem isCells.of {w : World} {k : Nat} {cs : Array Value} (h : Blk w k cs) : isCells k w := let ⟨t, h⟩ := h; ⟨cs, t, h⟩
theorem keyL_span (k : Nat) : KeyL Try.prog 190 (spK k) (isCells k) := by
  have hp : Try.prog.underlying 190 = some (.pointer 43) := by kernel_rfl
  obtain ⟨j, hj, hs⟩ : ∃ j, Try.prog.info? 43 = some j ∧ j.size ≠ 0 := by
    have : (Try.prog.info? 43).map (·.size) = some 2 := by kernel_rfl
    cases h : Try.prog.info? 43 with
    | none => rw [h] at this; cases this
    | some j => rw [h] at this; exact ⟨j, rfl, by simp at this; omega⟩
  have heq : ∀ (d : Nat) (a b : Sp) (w : World), isCells k w → (Op.equalIn (d + 1) 190 (spK k a) (spK k b)).run Try.prog w = .ok (decide (a = b)) w := by
    rintro d a b w ⟨cs, t, hb⟩
    cases a <;> cases b
    · simp [spK, Op.equalIn, run_underlying hp, sizeOf, typeInfo, hj, run_sameAddr_same]
    · simp [spK, Op.equalIn, run_underlying hp, sizeOf, typeInfo, hj, hs, run_sameAddr_other w (a := ⟨k, 0, none⟩) (b := ⟨k, 2, none⟩) (by simp) hb hb]
    · simp [spK, Op.equalIn, run_underlying hp, sizeOf, typeInfo, hj, hs, run_sameAddr_other w (a := ⟨k, 2, none⟩) (b := ⟨k, 0, none⟩) (by simp) hb hb]
    · simp [spK, Op.equalIn, run_underlying hp, sizeOf, typeInfo, hj, run_sameAddr_same]
  refine ⟨fun a es w => ?_, fun em a w => ?_, fun a b w hw => ?_, fun a => ?_⟩
  · cases es with
    | nil => simp [Instr.findKey, run_underlying hp, Instr.findNow, Instr.findAsking]
    | cons e es => cases a <;> simp [spK, Instr.findKey, run_underlying hp, Instr.findNow, Instr.sameNow]
  · have key : ∀ n, (Instr.checkKey em (n + 1) 190 (spK k a)).run Try.prog w = .ok () w := fun n => by cases a <;> simp [spK, Instr.checkKey, run_underlying hp]
    exact key 9999
  · simp only [Op.equal, Op.maxDepth]
    exact heq 9999 a b w hw
  · cases a <;> exact beq_self_eq_true (α := Option Addr) _
theorem under_spans : Try.prog.underlying 191 = some (.map 190 3) := by kernel_rfl
/-- A map of one's own, whose keys and elements are just those of S. -/
def Res.mapS {κ ν : Type} (ek : κ → Value) (ev : ν → Value) (b : Nat) (S : κ × ν → Prop) : Res :=
  ⟨fun k => k = b, fun w => ∃ l, MapL ek ev w b l ∧ ∀ y, y ∈ l ↔ S y, fun _ _ h ⟨l, hl, hs⟩ => ⟨l, hl.same (h b rfl), hs⟩⟩
def Res.iterS {κ ν : Type} (ek : κ → Value) (ev : ν → Value) (r b : Nat) (S : κ × ν → Prop) : Res :=
  ⟨fun k => k = r ∨ k = b, fun w => ∃ l, IterL ek ev w r b l ∧ (l.map (fun z : κ × ν => z.1)).Nodup ∧ ∀ y, y ∈ l ↔ S y, fun _ _ h ⟨l, hl, hn, hs⟩ => ⟨l, hl.same (h r (.inl rfl)) (h b (.inr rfl)), hn, hs⟩⟩
def mapAt : Value → Nat
  | .map (some k) => k
  | _ => 0
def Lik.map : Lik := ⟨true, fun v => ∃ k, v = .map (some k), .map (some 0), ⟨_, rfl⟩⟩
theorem mem_put {κ ν : Type} [DecidableEq κ] {l : List (κ × ν)} (hn : (l.map (·.1)).Nodup) (k : κ) (v : ν) (y : κ × ν) : y ∈ putL l k v ↔ y = (k, v) ∨ (y ∈ l ∧ y.1 ≠ k) := by
  have h2 := putL_nodup hn k v
  constructor
  · intro h
    have h3 : lookL (putL l k v) y.1 = some y.2 := lookL_of_mem h2 h
    rw [lookL_put hn] at h3
    split at h3
    · rename_i e
      cases h3
      exact .inl (Prod.ext e rfl)
    · rename_i e
      exact .inr ⟨lookL_mem h3, e⟩
  · rintro (rfl | ⟨h, hk⟩)
    · exact lookL_mem (by rw [lookL_put hn, if_pos rfl])
    · exact lookL_mem (k := y.1) (v := y.2) (by rw [lookL_put hn, if_neg hk]; exact lookL_of_mem hn h)
theorem Closed.on {ops : Array Oper} {L : Nat → Bool} (hc : Closed ops L) {i j : Nat} (f : Nat) (hj : L j = true) (h : reach ops i f j = true) : L i = true := by
  cases hi : L i
  · have := hc.off hi f j h; rw [hj] at this; cases this
  · rfl
theorem Chg.near {S : Nat → Prop} {a b c : World} (h : Chg S a b) (k : Chg (fun j => S j ∨ b.heap.size ≤ j) b c) : Chg S a c :=
  ⟨k.os.trans h.os, k.tape.trans h.tape, k.output.trans h.output, Nat.le_trans h.size k.size, fun i hi hs => (k.block i (Nat.lt_of_lt_of_le hi h.size) (fun e => by rcases e with e | e; exact hs e; have := h.size; omega)).trans (h.block i hi hs)⟩
theorem left_mid {κ ν : Type} {pre post : List (κ × ν)} {x : κ} {y : ν} (hn : ((pre ++ (x, y) :: post).map (fun z : κ × ν => z.1)).Nodup) : ((pre ++ post).map (fun z : κ × ν => z.1)).Nodup ∧ ∀ q, q ∈ pre ++ post ↔ q ∈ pre ++ (x, y) :: post ∧ q.1 ≠ x := by
  rw [List.map_append, List.map_cons] at hn
  obtain ⟨h1, h2, h3⟩ := List.nodup_append.1 hn
  rw [List.nodup_cons] at h2
  refine ⟨?_, fun q => ?_⟩
  · rw [List.map_append]
    exact List.nodup_append.2 ⟨h1, h2.2, fun a ha b hb => h3 a ha b (List.mem_cons_of_mem _ hb)⟩
  · simp only [List.mem_append, List.mem_cons]
    constructor
    · rintro (h | h)
      · exact ⟨.inl h, fun e => h3 q.1 (List.mem_map.2 ⟨q, h, rfl⟩) x (by simp) e⟩
      · exact ⟨.inr (.inr h), fun e => h2.1 (e ▸ List.mem_map.2 ⟨q, h, rfl⟩)⟩
    · rintro ⟨h | rfl | h, hq⟩
      · exact .inl h
      · exact absurd rfl hq
      · exact .inr h
def exR (a b : Int) (j : Nat) (v : Value) : Prop := (j = 5 → v = .int .i64 a) ∧ (j = 11 → v = .int .i64 b)
def spS (d t : Int) (p q : Bool) (y : Sp × Int) : Prop := (p = true ∧ y = (Sp.d, d)) ∨ (q = true ∧ y = (Sp.t, t))
set_option maxRecDepth 100000 in
set_option maxHeartbeats 4000000 in
theorem mean_extAdd (k : Nat) (x : Ex) (d t : Int) (w : World) (hb : Blk w k x.cells) :
    Calls Try.prog 95 #[.pointer (some ⟨k, 0, none⟩), .int .i64 d, .int .i64 t] w fun e w' => e = .returned (.tuple #[]) ∧ Blk w' k (addX x d t).cells ∧ Chg (· = k) w w' := by
  obtain ⟨q, hq⟩ : ∃ q, addX x d t = q := ⟨_, rfl⟩
  have HQ := Lib.hid hq
  rw [hq]
  -- behind the first lines: the spans, and that there are some
  have HY : Hid (∃ y : Ex, y.some = true ∧ addX y d t = q ∧ (if x.some = true then y = x else y = ⟨d, d, t, t, true⟩)) := Lib.hid (by
    by_cases h : x.some = true
    · exact ⟨x, h, hq, by rw [if_pos h]⟩
    · exact ⟨⟨d, d, t, t, true⟩, rfl, by rw [← hq]; unfold addX; rw [if_pos rfl, if_neg h]; simp [Int.min_self, Int.max_self], by rw [if_neg h]⟩)
  obtain ⟨y, hy1, hy2, hy3⟩ := HY.out
  have HY2 := Lib.hid hy2
  obtain ⟨dl, dh, tl, th, so⟩ := x
  unfold Ex.cells at hb ⊢
  simp only at hb hy3 HQ ⊢
  have HB := Lib.hid hb
  clear hq hb HY hy2
  go_enter Try.func95, Try.ntmps95
  have c0 := HB.out.cell 0 (v := .int .i64 dl) rfl
  have c1 := HB.out.cell 1 (v := .int .i64 dh) rfl
  have c2 := HB.out.cell 2 (v := .int .i64 tl) rfl
  have c3 := HB.out.cell 3 (v := .int .i64 th) rfl
  have c4 := HB.out.cell 4 (v := .bool so) rfl
  have f0 := HB.out.frozen 0
  have f1 := HB.out.frozen 1
  have f2 := HB.out.frozen 2
  have f3 := HB.out.frozen 3
  have hl := HB.out.lt
  obtain ⟨yl, yh, ul, uh, ys⟩ := y
  simp only at hy1 hy3
  subst hy1
  go_upto_if 12 with fail
  go_cut [] from 13 to 26 (fun wx => Blk wx k #[.int .i64 yl, .int .i64 yh, .int .i64 ul, .int .i64 uh, .bool so] ∧ Chg (· = k) w wx)
  case first =>
    cases so
    · rw [if_neg (by simp)] at hy3
      obtain ⟨rfl, rfl, rfl, rfl⟩ : yl = d ∧ yh = d ∧ ul = t ∧ uh = t := by simpa using hy3
      go_wp2
      go_meet
      exact ⟨by have := (((HB.out.set 0 (.int .i64 yh)).set 1 (.int .i64 yh)).set 2 (.int .i64 uh)).set 3 (.int .i64 uh); simpa using this, ((((Chg.refl (· = k) w).setCell (p := ⟨k, 0, none⟩) (.inr rfl) _).setCell (p := ⟨k, 1, none⟩) (.inr rfl) _).setCell (p := ⟨k, 2, none⟩) (.inr rfl) _).setCell (p := ⟨k, 3, none⟩) (.inr rfl) _⟩
    · rw [if_pos rfl] at hy3
      obtain ⟨rfl, rfl, rfl, rfl⟩ : yl = dl ∧ yh = dh ∧ ul = tl ∧ uh = th := by simpa using hy3
      go_wp2
      go_meet
      exact ⟨HB.out, Chg.refl _ _⟩
  case rest =>
  obtain ⟨hbk, hch⟩ := hcut
  rename_i K0 b0
  refine b0 _ _ ?_
  have HBK := Lib.hid hbk
  have HCH := Lib.hid hch
  have f4 := hbk.frozen 4
  have c4' := hbk.cell 4 (v := .bool so) rfl
  have hl2 := hbk.lt
  clear hbk hch hy3 c0 c1 c2 c3 c4 f0 f1 f2 f3 hl HB HQ
  go_upto_region 3 with fail
  have hb2 := HBK.out.set 4 (.bool true)
  have hc2 := HCH.out.setCell (p := ⟨k, 4, none⟩) (.inr rfl) (.bool true)
  obtain ⟨w2, hw2⟩ : ∃ z, z = wc.setCell ⟨k, 4, none⟩ (.bool true) := ⟨_, rfl⟩
  rw [← hw2] at hb2 hc2 ⊢
  have HB2 : Hid (Blk w2 k #[.int .i64 yl, .int .i64 yh, .int .i64 ul, .int .i64 uh, .bool true]) := Lib.hid hb2
  have HC2 := Lib.hid hc2
  have hl3 := hb2.lt
  clear hw2 hb2 hc2 HBK HCH f4 hl2 c4'
  refine wp_region_calls (by kernel_rfl) [Lik.map, .no, .no, .no, .no, .no, .any, .no, .no, .no, .no, .no, .any, .no, .ptr] w2.heap.size (fun (c : Unit) => 0)
    (fun (c : Unit) L u => [bif L 14 then Res.iterS (spK k) (Value.int .i64) (ptrAt (u 14)) (mapAt (u 0)) (spS d t (L 6) (L 12)) else bif L 0 then Res.mapS (spK k) (Value.int .i64) (mapAt (u 0)) (spS d t (L 6) (L 12)) else Res.none])
    () (by kernel_rfl) (Nat.le_of_ble_eq_true rfl) (fun c L L' u hh => by simp only [hh 0 rfl, hh 14 rfl, hh 6 rfl, hh 12 rfl]) (by simp) (fun _ => Frm.nones _ 1 w2) ?_
  intro T hT hne u hu
  obtain ⟨m, u0⟩ : ∃ m, u 0 = .map (some m) := hu 0 rfl
  obtain ⟨r, u14⟩ : ∃ r, u 14 = .pointer (some ⟨r, 0, none⟩) := hu 14 rfl
  clear hu
  refine lx_loud (by rfl) (by kernel_rfl) ?_ (fun K hK => ?_)
  · intro L w3 hL hd hcl hC hs
    obtain ⟨z, rfl⟩ := hC
    obtain ⟨c, hmc, hs⟩ := hs
    have hzs := z.size
    have h14 := hcl.off hL 40 14 (by kernel_rfl)
    have h6 := hcl.off hL 40 6 (by kernel_rfl)
    have h12 := hcl.off hL 40 12 (by kernel_rfl)
    simp only [hL, h14, cond_false] at hs
    have HS := Lib.hid hs
    clear hs
    go_wp2
    refine lik_set z (Nat.le_refl _) ⟨_, rfl⟩ HS.out 0 (r' := Res.mapS (spK k) (Value.int .i64) z.world.heap.size (spS d t false false)) rfl (((Ext.refl z.world).alloc _).chg _) ⟨[], MapL.made _, fun y => by simp [spS]⟩ (fun j hj => .inr (by rw [show j = z.world.heap.size from hj]; simp)) c hmc ?_
    simp [upd, updv, hL, h14, h6, h12, mapAt]
    rfl
  rw [u0]
  go_simp
  with_reducible refine hK _ ?_
  clear hK K
  refine lx_next 5 (by rfl) (by decide) ?_
  dsimp only [List.take, List.drop]
  repeat (go_big_quiet_step (fail))
  refine wpQuiet_nil ?_
  refine lx_loud (by rfl) (by kernel_rfl) ?_ (fun K hK => ?_)
  · intro L w3 hL hd hcl hC hs
    obtain ⟨z, rfl⟩ := hC
    obtain ⟨c, hmc, hs⟩ := hs
    have hzs := z.size
    have h0 := hd 0 (by kernel_rfl)
    have h14 := hcl.off hL 40 14 (by kernel_rfl)
    simp only [hL, h0, h14, cond_false, cond_true] at hs
    rw [u0] at hs
    obtain ⟨l, hl0, hls⟩ : ∃ l, MapL (spK k) (Value.int .i64) z.world m l ∧ ∀ y, y ∈ l ↔ spS d t (false) (L 12) y := hs.get 0 rfl
    have hG : isCells k z.world := isCells.of (HB2.out.chg z.chg (by rintro ⟨_, h⟩; omega))
    obtain ⟨w', hrun, hm', hc'⟩ := run_put (keyL_span k) under_spans hl0 hG Sp.d d
    simp only [spK] at hrun
    have hmem := mem_put hl0.nodup Sp.d d
    have HS := Lib.hid hs
    have HM := Lib.hid hm'
    have HCC := Lib.hid hc'
    have HLS : Hid (∀ y, y ∈ putL l Sp.d d ↔ spS d t (true) (L 12) y) := Lib.hid (fun y => by
      rw [hmem y, hls y]
      unfold spS
      obtain ⟨y1, y2⟩ := y
      cases y1 <;> simp)
    clear hs hls hm' hc' hmem hl0 hG
    go_wp2
    refine lik_set z (Nat.le_refl _) trivial HS.out 0 (r' := Res.mapS (spK k) (Value.int .i64) m (spS d t (true) (L 12))) rfl (HCC.out.mono fun j _ h => h) ⟨_, HM.out, HLS.out⟩ (fun j hj => .inl hj) c hmc (by first | (simp [upd, updv, hL, h0, h14, u0, mapAt]; done) | (simp [upd, updv, hL, h0, h14, u0, mapAt]; rfl))
  go_simp
  with_reducible refine hK _ ?_
  clear hK K
  refine lx_next 5 (by rfl) (by decide) ?_
  dsimp only [List.take, List.drop]
  repeat (go_big_quiet_step (fail))
  refine wpQuiet_nil ?_
  refine lx_loud (by rfl) (by kernel_rfl) ?_ (fun K hK => ?_)
  · intro L w3 hL hd hcl hC hs
    obtain ⟨z, rfl⟩ := hC
    obtain ⟨c, hmc, hs⟩ := hs
    have hzs := z.size
    have h0 := hd 0 (by kernel_rfl)
    have h14 := hcl.off hL 40 14 (by kernel_rfl)
    simp only [hL, h0, h14, cond_false, cond_true] at hs
    rw [u0] at hs
    obtain ⟨l, hl0, hls⟩ : ∃ l, MapL (spK k) (Value.int .i64) z.world m l ∧ ∀ y, y ∈ l ↔ spS d t (L 6) (false) y := hs.get 0 rfl
    have hG : isCells k z.world := isCells.of (HB2.out.chg z.chg (by rintro ⟨_, h⟩; omega))
    obtain ⟨w', hrun, hm', hc'⟩ := run_put (keyL_span k) under_spans hl0 hG Sp.t t
    simp only [spK] at hrun
    have hmem := mem_put hl0.nodup Sp.t t
    have HS := Lib.hid hs
    have HM := Lib.hid hm'
    have HCC := Lib.hid hc'
    have HLS : Hid (∀ y, y ∈ putL l Sp.t t ↔ spS d t (L 6) (true) y) := Lib.hid (fun y => by
      rw [hmem y, hls y]
      unfold spS
      obtain ⟨y1, y2⟩ := y
      cases y1 <;> simp)
    clear hs hls hm' hc' hmem hl0 hG
    go_wp2
    refine lik_set z (Nat.le_refl _) trivial HS.out 0 (r' := Res.mapS (spK k) (Value.int .i64) m (spS d t (L 6) (true))) rfl (HCC.out.mono fun j _ h => h) ⟨_, HM.out, HLS.out⟩ (fun j hj => .inl hj) c hmc (by first | (simp [upd, updv, hL, h0, h14, u0, mapAt]; done) | (simp [upd, updv, hL, h0, h14, u0, mapAt]; rfl))
  go_simp
  with_reducible refine hK _ ?_
  clear hK K
  refine lx_next 1 (by rfl) (by decide) ?_
  dsimp only [List.take, List.drop]
  repeat (go_big_quiet_step (fail))
  refine wpQuiet_nil ?_
  refine lx_loud (by rfl) (by kernel_rfl) ?_ (fun K hK => ?_)
  · intro L w3 hL hd hcl hC hs
    obtain ⟨z, rfl⟩ := hC
    obtain ⟨c, hmc, hs⟩ := hs
    have hzs := z.size
    have h0 := hcl.on 40 (hd 13 (by kernel_rfl)) (j := 13) (i := 0) (by kernel_rfl)
    have h6 := hcl.on 40 (hd 13 (by kernel_rfl)) (j := 13) (i := 6) (by kernel_rfl)
    have h12 := hcl.on 40 (hd 13 (by kernel_rfl)) (j := 13) (i := 12) (by kernel_rfl)
    simp only [hL, h0, h6, h12, cond_false, cond_true] at hs
    rw [u0] at hs
    obtain ⟨l, hl0, hls⟩ : ∃ l, MapL (spK k) (Value.int .i64) z.world m l ∧ ∀ y, y ∈ l ↔ spS d t true true y := hs.get 0 rfl
    obtain ⟨ob, hrun, hit⟩ := run_rangeL (P := Try.prog) under_spans hl0
    have HS := Lib.hid hs
    have HIT := Lib.hid hit
    have HLS := Lib.hid hls
    have HND := Lib.hid hl0.nodup
    clear hs hls hit hl0
    go_wp2
    refine lik_set z (Nat.le_refl _) ⟨_, rfl⟩ HS.out 0 (r' := Res.iterS (spK k) (Value.int .i64) z.world.heap.size m (spS d t true true)) rfl (((Ext.refl z.world).alloc _).chg _) ⟨l, HIT.out, HND.out, HLS.out⟩ (fun j hj => by rcases hj with rfl | rfl; exact .inr (by simp); exact .inl rfl) c hmc (by first | (simp [upd, updv, hL, h0, h6, h12, u0, mapAt, ptrAt]; done) | (simp [upd, updv, hL, h0, h6, h12, u0, mapAt, ptrAt]; rfl))
  rw [u14]
  go_simp
  with_reducible refine hK _ ?_
  clear hK K
  refine lx_nil ?_
  intro z hs
  obtain ⟨c, hmc, hs⟩ := hs
  rw [u0, u14] at hs
  obtain ⟨l0, hit, hnd, hls⟩ : ∃ l, IterL (spK k) (Value.int .i64) z.world r m l ∧ (l.map (fun z : Sp × Int => z.1)).Nodup ∧ ∀ y, y ∈ l ↔ spS d t true true y := hs.get 0 rfl
  have hrm := hs.lt 0 rfl
  have hr1 := (hrm r (.inl rfl)).1
  have hm1 := (hrm m (.inr rfl)).1
  have hXz : Ext w2 z.world := Chg.to_ext (Ext.refl w2) z.chg (by rintro i ⟨_, h⟩; exact h)
  have HIT := Lib.hid hit
  have HND := Lib.hid hnd
  have HLS := Lib.hid hls
  have HBZ := Lib.hid (HB2.out.ext hXz)
  have HCZ := Lib.hid (HC2.out.ext' hXz)
  have HSZ := Lib.hid (HC2.out.size)
  have HXZ := Lib.hid hXz
  clear hs hmc hT hne u0 u14 hit hnd hls hrm hXz
  generalize z.world = w3 at *
  have hrk : ¬ r = k := by omega
  have hmk : ¬ m = k := by omega
  have hlb := HBZ.out.lt
  go_wp2
  go_loopw [6] (fun _ wr => ∃ left dn tn, IterL (spK k) (Value.int .i64) wr r m left ∧ (left.map (fun z : Sp × Int => z.1)).Nodup ∧ (∀ y, y ∈ left ↔ spS d t (!dn) (!tn) y) ∧ Blk wr k #[.int .i64 (bif dn then min yl d else yl), .int .i64 (bif dn then max yh d else yh), .int .i64 (bif tn then min ul t else ul), .int .i64 (bif tn then max uh t else uh), .bool true] ∧ Chg (fun j => j = k ∨ w2.heap.size ≤ j) w2 wr) (fun _ wr => itLeft wr r m)
  case atStart => exact ⟨l0, false, false, HIT.out, HND.out, HLS.out, HBZ.out, HXZ.out.chg _⟩
  case round =>
    obtain ⟨left, dn, tn, hit, hnd, hls, hb, hc⟩ := hrel
    have HIT := Lib.hid hit
    have HND := Lib.hid hnd
    have HLS := Lib.hid hls
    have HB := Lib.hid hb
    have HC := Lib.hid hc
    clear hit hnd hls hb hc
    have hbl := HB.out.lt
    go_wp2_with (at_next; refine wp_nextL rfl _ rfl r m left rfl HIT.out ?_ ?_)
    · rintro rfl
      have h1 := (HLS.out (Sp.d, d)).2
      have h2 := (HLS.out (Sp.t, t)).2
      have hdn : dn = true := by cases dn; exact absurd (h1 (.inl ⟨rfl, rfl⟩)) (by simp); rfl
      have htn : tn = true := by cases tn; exact absurd (h2 (.inr ⟨rfl, rfl⟩)) (by simp); rfl
      subst hdn htn
      clear h1 h2
      go_wp2
      refine bodyPost_end (results_none rfl _ _ _) rfl ⟨rfl, ?_, ?_⟩
      · have hb := HB.out
        rw [← HY2.out]
        unfold addX
        rw [if_pos rfl]
        exact hb
      · exact HC2.out.near HC.out
    · intro x y pre post w5 hsp hit5 hc5 hen
      have hmem : (x, y) ∈ left := by rw [hsp]; simp
      have hin := (HLS.out _).1 hmem
      have hnd := HND.out
      rw [hsp] at hnd
      obtain ⟨hn2, hq2⟩ := left_mid hnd
      rw [← hsp] at hq2
      have HN2 := Lib.hid hn2
      have HQ2 := Lib.hid hq2
      have HIT5 := Lib.hid hit5
      have HBQ := HB.out.chg hc5 (fun e => hrk e.symm)
      have HC6 := Lib.hid (HC.out.trans (hc5.mono (T := fun j => j = k ∨ w2.heap.size ≤ j) (fun j _ e => .inr (by rw [show j = r from e]; omega))))
      have hcnt := HIT.out.count
      have hcn5 := hit5.count
      have hlen : left.length = (pre ++ post).length + 1 := by rw [hsp]; simp; omega
      have HLEN : Hid (itLeft w5 r m < itLeft wr r m) := Lib.hid (by rw [hcnt, hcn5, hlen]; omega)
      have hl5 := HBQ.lt
      clear hmem hnd hn2 hq2 hit5 hcnt hcn5 hlen hsp hbl hc5
      unfold spS at hin
      cases x
      · obtain ⟨h1, h2⟩ : (!dn) = true ∧ y = d := by simpa using hin
        obtain rfl : dn = false := by simpa using h1
        have h3 := h2.symm
        subst h3
        clear h1 h2 hin
        simp only [spK] at hen
        have HBQ' : Hid (Blk w5 k #[.int .i64 yl, .int .i64 yh, .int .i64 (bif tn then min ul t else ul), .int .i64 (bif tn then max uh t else uh), .bool true]) := Lib.hid HBQ
        obtain ⟨p2, hp2⟩ : ∃ p, (bif tn then min ul t else ul) = p := ⟨_, rfl⟩
        obtain ⟨p3, hp3⟩ : ∃ p, (bif tn then max uh t else uh) = p := ⟨_, rfl⟩
        rw [hp2, hp3] at HBQ'
        have HP2 := Lib.hid hp2
        have HP3 := Lib.hid hp3
        clear hp2 hp3 HBQ
        by_cases hlo : yl ≤ d
        case pos =>
          by_cases hhi : d ≤ yh
          case pos =>
            go_upto_region 6 with fail
            refine wp_region_lat (by kernel_rfl) (fun b o => b = k ∧ (o = 0 ∨ o = 1)) (fun j => j == 5 || (j == 11 || (j == 16 || j == 19))) (exR yl yh) (fun L _ w' => Blk w' k #[.int .i64 (bif L 16 then yl else yl), .int .i64 (bif L 19 then yh else yh), .int .i64 p2, .int .i64 p3, .bool true])
              (by kernel_rfl) (fun j hj => by simp at hj; rcases hj with rfl | rfl | rfl | rfl <;> decide) (fun L L' _ _ hh hb => by rw [hh 16 rfl, hh 19 rfl]; exact hb) (fun L _ w' w'' hb hx => hb.ext hx)
              (fun j => if j = 5 then .int .i64 yl else .int .i64 yh) (fun j _ => ⟨fun e => by subst e; rfl, fun e => by subst e; rfl⟩) HBQ'.out.drew ?_
            intro T hT hne u hu
            have u5 : u 5 = .int .i64 yl := (hu 5 rfl).1 rfl
            have u11 : u 11 = .int .i64 yh := (hu 11 rfl).2 rfl
            clear hu
            refine lx_next 5 (by rfl) (by decide) ?_
            dsimp only [List.take, List.drop]
            repeat (go_big_quiet_step (fail))
            refine wpQuiet_nil ?_
            refine lx_loud (by rfl) (by kernel_rfl) ?_ (fun K hK => ?_)
            · intro L w3 hL hd hcl hC hs
              obtain ⟨z, rfl⟩ := hC
              have h16 := hcl.off hL 40 16 (by kernel_rfl)
              have h19 := hcl.off hL 40 19 (by kernel_rfl)
              have hbb : Blk z.world k #[.int .i64 (bif L 16 then yl else yl), .int .i64 (bif L 19 then yh else yh), .int .i64 p2, .int .i64 p3, .bool true] := hs
              have HS := Lib.hid hbb
              simp only [h16, h19, cond_false] at hbb
              have q0 := hbb.cell 0 (v := .int .i64 yl) rfl
              have ql := hbb.lt
              clear hs hbb
              go_wp2
              exact ⟨⟨(fun e => by first | rfl | cases e), (fun e => by first | rfl | cases e)⟩, ⟨z, rfl⟩, by have := HS.out; simpa [upd] using this⟩
            rw [u5]
            go_simp
            with_reducible refine hK _ ?_
            clear hK K
            refine lx_next 5 (by rfl) (by decide) ?_
            dsimp only [List.take, List.drop]
            repeat (go_big_quiet_step (fail))
            refine wpQuiet_nil ?_
            refine lx_loud (by rfl) (by kernel_rfl) ?_ (fun K hK => ?_)
            · intro L w3 hL hd hcl hC hs
              obtain ⟨z, rfl⟩ := hC
              have h16 := hcl.off hL 40 16 (by kernel_rfl)
              have h19 := hcl.off hL 40 19 (by kernel_rfl)
              have hbb : Blk z.world k #[.int .i64 (bif L 16 then yl else yl), .int .i64 (bif L 19 then yh else yh), .int .i64 p2, .int .i64 p3, .bool true] := hs
              have HS := Lib.hid hbb
              simp only [h16, h19, cond_false] at hbb
              have q0 := hbb.cell 1 (v := .int .i64 yh) rfl
              have ql := hbb.lt
              clear hs hbb
              go_wp2
              exact ⟨⟨(fun e => by first | rfl | cases e), (fun e => by first | rfl | cases e)⟩, ⟨z, rfl⟩, by have := HS.out; simpa [upd] using this⟩
            rw [u11]
            go_simp
            with_reducible refine hK _ ?_
            clear hK K
            refine lx_next 4 (by rfl) (by decide) ?_
            dsimp only [List.take, List.drop]
            repeat (go_big_quiet_step (fail))
            refine wpQuiet_nil ?_
            refine lx_loud (by rfl) (by kernel_rfl) ?_ (fun K hK => ?_)
            · intro L w3 hL hd hcl hC hs
              obtain ⟨z, rfl⟩ := hC
              have hbb : Blk z.world k #[.int .i64 (bif L 16 then yl else yl), .int .i64 (bif L 19 then yh else yh), .int .i64 p2, .int .i64 p3, .bool true] := hs
              have f0 := hbb.frozen 0
              have q0 := hbb.cell 0 rfl
              have ql := hbb.lt
              have HS := Lib.hid hbb
              have HL := Lib.hid hL
              clear hs hbb
              go_wp2
              refine ⟨⟨(fun e => by cases e), (fun e => by cases e)⟩, ⟨z.setCell (.inr ⟨rfl, by simp⟩) _, rfl⟩, ?_⟩
              have hset := HS.out.set 0 (.int .i64 (yl))
              have hL' := HL.out
              simp only [hL', cond_false] at hset
              simpa [upd, hL'] using hset
            go_simp
            with_reducible refine hK _ ?_
            clear hK K
            refine lx_next 2 (by rfl) (by decide) ?_
            dsimp only [List.take, List.drop]
            repeat (go_big_quiet_step (fail))
            refine wpQuiet_nil ?_
            refine lx_loud (by rfl) (by kernel_rfl) ?_ (fun K hK => ?_)
            · intro L w3 hL hd hcl hC hs
              obtain ⟨z, rfl⟩ := hC
              have hbb : Blk z.world k #[.int .i64 (bif L 16 then yl else yl), .int .i64 (bif L 19 then yh else yh), .int .i64 p2, .int .i64 p3, .bool true] := hs
              have f0 := hbb.frozen 1
              have q0 := hbb.cell 1 rfl
              have ql := hbb.lt
              have HS := Lib.hid hbb
              have HL := Lib.hid hL
              clear hs hbb
              go_wp2
              refine ⟨⟨(fun e => by cases e), (fun e => by cases e)⟩, ⟨z.setCell (.inr ⟨rfl, by simp⟩) _, rfl⟩, ?_⟩
              have hset := HS.out.set 1 (.int .i64 (yh))
              have hL' := HL.out
              simp only [hL', cond_false] at hset
              simpa [upd, hL'] using hset
            go_simp
            with_reducible refine hK _ ?_
            clear hK K
            refine lx_nil ?_
            intro z hG
            have hG2 : Blk z.world k #[.int .i64 (bif true then yl else yl), .int .i64 (bif true then yh else yh), .int .i64 p2, .int .i64 p3, .bool true] := hG
            simp only [cond_true] at hG2
            have HB5 : Hid (Blk z.world k #[.int .i64 (min yl d), .int .i64 (max yh d), .int .i64 p2, .int .i64 p3, .bool true]) := Lib.hid (by rw [show min yl d = yl by omega, show max yh d = yh by omega]; exact hG2)
            have HC5 := Lib.hid (z.chg.mono (T := fun j => j = k) (fun j _ ⟨_, h⟩ => h.1))
            clear hG hG2 hT hne u5 u11
            generalize z.world = w7 at *
            have HIT7 := Lib.hid (HIT5.out.chg HC5.out hrk hmk)
            have HC7 := Lib.hid (HC6.out.trans (HC5.out.mono fun j _ e => .inl e))
            have HLE7 : Hid (itLeft w7 r m < itLeft wr r m) := Lib.hid (by have h := HLEN.out; rw [HIT5.out.count] at h; rw [HIT7.out.count]; exact h)
            go_wp2
            go_roundw
            case rel =>
              refine ⟨pre ++ post, true, tn, HIT7.out, HN2.out, fun q => ?_, ?_, HC7.out⟩
              · rw [HQ2.out q, HLS.out q]
                unfold spS
                obtain ⟨q1, q2⟩ := q
                cases q1 <;> simp
              · have hb := HB5.out
                rw [← HP2.out, ← HP3.out] at hb
                exact hb
            case measure => exact HLE7.out
          case neg =>
            go_upto_region 6 with fail
            refine wp_region_lat (by kernel_rfl) (fun b o => b = k ∧ (o = 0 ∨ o = 1)) (fun j => j == 5 || (j == 11 || (j == 16 || j == 19))) (exR yl yh) (fun L _ w' => Blk w' k #[.int .i64 (bif L 16 then yl else yl), .int .i64 (bif L 19 then d else yh), .int .i64 p2, .int .i64 p3, .bool true])
              (by kernel_rfl) (fun j hj => by simp at hj; rcases hj with rfl | rfl | rfl | rfl <;> decide) (fun L L' _ _ hh hb => by rw [hh 16 rfl, hh 19 rfl]; exact hb) (fun L _ w' w'' hb hx => hb.ext hx)
              (fun j => if j = 5 then .int .i64 yl else .int .i64 yh) (fun j _ => ⟨fun e => by subst e; rfl, fun e => by subst e; rfl⟩) HBQ'.out.drew ?_
            intro T hT hne u hu
            have u5 : u 5 = .int .i64 yl := (hu 5 rfl).1 rfl
            have u11 : u 11 = .int .i64 yh := (hu 11 rfl).2 rfl
            clear hu
            refine lx_next 5 (by rfl) (by decide) ?_
            dsimp only [List.take, List.drop]
            repeat (go_big_quiet_step (fail))
            refine wpQuiet_nil ?_
            refine lx_loud (by rfl) (by kernel_rfl) ?_ (fun K hK => ?_)
            · intro L w3 hL hd hcl hC hs
              obtain ⟨z, rfl⟩ := hC
              have h16 := hcl.off hL 40 16 (by kernel_rfl)
              have h19 := hcl.off hL 40 19 (by kernel_rfl)
              have hbb : Blk z.world k #[.int .i64 (bif L 16 then yl else yl), .int .i64 (bif L 19 then d else yh), .int .i64 p2, .int .i64 p3, .bool true] := hs
              have HS := Lib.hid hbb
              simp only [h16, h19, cond_false] at hbb
              have q0 := hbb.cell 0 (v := .int .i64 yl) rfl
              have ql := hbb.lt
              clear hs hbb
              go_wp2
              exact ⟨⟨(fun e => by first | rfl | cases e), (fun e => by first | rfl | cases e)⟩, ⟨z, rfl⟩, by have := HS.out; simpa [upd] using this⟩
            rw [u5]
            go_simp
            with_reducible refine hK _ ?_
            clear hK K
            refine lx_next 5 (by rfl) (by decide) ?_
            dsimp only [List.take, List.drop]
            repeat (go_big_quiet_step (fail))
            refine wpQuiet_nil ?_
            refine lx_loud (by rfl) (by kernel_rfl) ?_ (fun K hK => ?_)
            · intro L w3 hL hd hcl hC hs
              obtain ⟨z, rfl⟩ := hC
              have h16 := hcl.off hL 40 16 (by kernel_rfl)
              have h19 := hcl.off hL 40 19 (by kernel_rfl)
              have hbb : Blk z.world k #[.int .i64 (bif L 16 then yl else yl), .int .i64 (bif L 19 then d else yh), .int .i64 p2, .int .i64 p3, .bool true] := hs
              have HS := Lib.hid hbb
              simp only [h16, h19, cond_false] at hbb
              have q0 := hbb.cell 1 (v := .int .i64 yh) rfl
              have ql := hbb.lt
              clear hs hbb
              go_wp2
              exact ⟨⟨(fun e => by first | rfl | cases e), (fun e => by first | rfl | cases e)⟩, ⟨z, rfl⟩, by have := HS.out; simpa [upd] using this⟩
            rw [u11]
            go_simp
            with_reducible refine hK _ ?_
            clear hK K
            refine lx_next 4 (by rfl) (by decide) ?_
            dsimp only [List.take, List.drop]
            repeat (go_big_quiet_step (fail))
            refine wpQuiet_nil ?_
            refine lx_loud (by rfl) (by kernel_rfl) ?_ (fun K hK => ?_)
            · intro L w3 hL hd hcl hC hs
              obtain ⟨z, rfl⟩ := hC
              have hbb : Blk z.world k #[.int .i64 (bif L 16 then yl else yl), .int .i64 (bif L 19 then d else yh), .int .i64 p2, .int .i64 p3, .bool true] := hs
              have f0 := hbb.frozen 0
              have q0 := hbb.cell 0 rfl
              have ql := hbb.lt
              have HS := Lib.hid hbb
              have HL := Lib.hid hL
              clear hs hbb
              go_wp2
              refine ⟨⟨(fun e => by cases e), (fun e => by cases e)⟩, ⟨z.setCell (.inr ⟨rfl, by simp⟩) _, rfl⟩, ?_⟩
              have hset := HS.out.set 0 (.int .i64 (yl))
              have hL' := HL.out
              simp only [hL', cond_false] at hset
              simpa [upd, hL'] using hset
            go_simp
            with_reducible refine hK _ ?_
            clear hK K
            refine lx_next 2 (by rfl) (by decide) ?_
            dsimp only [List.take, List.drop]
            repeat (go_big_quiet_step (fail))
            refine wpQuiet_nil ?_
            refine lx_loud (by rfl) (by kernel_rfl) ?_ (fun K hK => ?_)
            · intro L w3 hL hd hcl hC hs
              obtain ⟨z, rfl⟩ := hC
              have hbb : Blk z.world k #[.int .i64 (bif L 16 then yl else yl), .int .i64 (bif L 19 then d else yh), .int .i64 p2, .int .i64 p3, .bool true] := hs
              have f0 := hbb.frozen 1
              have q0 := hbb.cell 1 rfl
              have ql := hbb.lt
              have HS := Lib.hid hbb
              have HL := Lib.hid hL
              clear hs hbb
              go_wp2
              refine ⟨⟨(fun e => by cases e), (fun e => by cases e)⟩, ⟨z.setCell (.inr ⟨rfl, by simp⟩) _, rfl⟩, ?_⟩
              have hset := HS.out.set 1 (.int .i64 (d))
              have hL' := HL.out
              simp only [hL', cond_false] at hset
              simpa [upd, hL'] using hset
            go_simp
            with_reducible refine hK _ ?_
            clear hK K
            refine lx_nil ?_
            intro z hG
            have hG2 : Blk z.world k #[.int .i64 (bif true then yl else yl), .int .i64 (bif true then d else yh), .int .i64 p2, .int .i64 p3, .bool true] := hG
            simp only [cond_true] at hG2
            have HB5 : Hid (Blk z.world k #[.int .i64 (min yl d), .int .i64 (max yh d), .int .i64 p2, .int .i64 p3, .bool true]) := Lib.hid (by rw [show min yl d = yl by omega, show max yh d = d by omega]; exact hG2)
            have HC5 := Lib.hid (z.chg.mono (T := fun j => j = k) (fun j _ ⟨_, h⟩ => h.1))
            clear hG hG2 hT hne u5 u11
            generalize z.world = w7 at *
            have HIT7 := Lib.hid (HIT5.out.chg HC5.out hrk hmk)
            have HC7 := Lib.hid (HC6.out.trans (HC5.out.mono fun j _ e => .inl e))
            have HLE7 : Hid (itLeft w7 r m < itLeft wr r m) := Lib.hid (by have h := HLEN.out; rw [HIT5.out.count] at h; rw [HIT7.out.count]; exact h)
            go_wp2
            go_roundw
            case rel =>
              refine ⟨pre ++ post, true, tn, HIT7.out, HN2.out, fun q => ?_, ?_, HC7.out⟩
              · rw [HQ2.out q, HLS.out q]
                unfold spS
                obtain ⟨q1, q2⟩ := q
                cases q1 <;> simp
              · have hb := HB5.out
                rw [← HP2.out, ← HP3.out] at hb
                exact hb
            case measure => exact HLE7.out
        case neg =>
          by_cases hhi : d ≤ yh
          case pos =>
            go_upto_region 6 with fail
            refine wp_region_lat (by kernel_rfl) (fun b o => b = k ∧ (o = 0 ∨ o = 1)) (fun j => j == 5 || (j == 11 || (j == 16 || j == 19))) (exR yl yh) (fun L _ w' => Blk w' k #[.int .i64 (bif L 16 then d else yl), .int .i64 (bif L 19 then yh else yh), .int .i64 p2, .int .i64 p3, .bool true])
              (by kernel_rfl) (fun j hj => by simp at hj; rcases hj with rfl | rfl | rfl | rfl <;> decide) (fun L L' _ _ hh hb => by rw [hh 16 rfl, hh 19 rfl]; exact hb) (fun L _ w' w'' hb hx => hb.ext hx)
              (fun j => if j = 5 then .int .i64 yl else .int .i64 yh) (fun j _ => ⟨fun e => by subst e; rfl, fun e => by subst e; rfl⟩) HBQ'.out.drew ?_
            intro T hT hne u hu
            have u5 : u 5 = .int .i64 yl := (hu 5 rfl).1 rfl
            have u11 : u 11 = .int .i64 yh := (hu 11 rfl).2 rfl
            clear hu
            refine lx_next 5 (by rfl) (by decide) ?_
            dsimp only [List.take, List.drop]
            repeat (go_big_quiet_step (fail))
            refine wpQuiet_nil ?_
            refine lx_loud (by rfl) (by kernel_rfl) ?_ (fun K hK => ?_)
            · intro L w3 hL hd hcl hC hs
              obtain ⟨z, rfl⟩ := hC
              have h16 := hcl.off hL 40 16 (by kernel_rfl)
              have h19 := hcl.off hL 40 19 (by kernel_rfl)
              have hbb : Blk z.world k #[.int .i64 (bif L 16 then d else yl), .int .i64 (bif L 19 then yh else yh), .int .i64 p2, .int .i64 p3, .bool true] := hs
              have HS := Lib.hid hbb
              simp only [h16, h19, cond_false] at hbb
              have q0 := hbb.cell 0 (v := .int .i64 yl) rfl
              have ql := hbb.lt
              clear hs hbb
              go_wp2
              exact ⟨⟨(fun e => by first | rfl | cases e), (fun e => by first | rfl | cases e)⟩, ⟨z, rfl⟩, by have := HS.out; simpa [upd] using this⟩
            rw [u5]
            go_simp
            with_reducible refine hK _ ?_
            clear hK K
            refine lx_next 5 (by rfl) (by decide) ?_
            dsimp only [List.take, List.drop]
            repeat (go_big_quiet_step (fail))
            refine wpQuiet_nil ?_
            refine lx_loud (by rfl) (by kernel_rfl) ?_ (fun K hK => ?_)
            · intro L w3 hL hd hcl hC hs
              obtain ⟨z, rfl⟩ := hC
              have h16 := hcl.off hL 40 16 (by kernel_rfl)
              have h19 := hcl.off hL 40 19 (by kernel_rfl)
              have hbb : Blk z.world k #[.int .i64 (bif L 16 then d else yl), .int .i64 (bif L 19 then yh else yh), .int .i64 p2, .int .i64 p3, .bool true] := hs
              have HS := Lib.hid hbb
              simp only [h16, h19, cond_false] at hbb
              have q0 := hbb.cell 1 (v := .int .i64 yh) rfl
              have ql := hbb.lt
              clear hs hbb
              go_wp2
              exact ⟨⟨(fun e => by first | rfl | cases e), (fun e => by first | rfl | cases e)⟩, ⟨z, rfl⟩, by have := HS.out; simpa [upd] using this⟩
            rw [u11]
            go_simp
            with_reducible refine hK _ ?_
            clear hK K
            refine lx_next 4 (by rfl) (by decide) ?_
            dsimp only [List.take, List.drop]
            repeat (go_big_quiet_step (fail))
            refine wpQuiet_nil ?_
            refine lx_loud (by rfl) (by kernel_rfl) ?_ (fun K hK => ?_)
            · intro L w3 hL hd hcl hC hs
              obtain ⟨z, rfl⟩ := hC
              have hbb : Blk z.world k #[.int .i64 (bif L 16 then d else yl), .int .i64 (bif L 19 then yh else yh), .int .i64 p2, .int .i64 p3, .bool true] := hs
              have f0 := hbb.frozen 0
              have q0 := hbb.cell 0 rfl
              have ql := hbb.lt
              have HS := Lib.hid hbb
              have HL := Lib.hid hL
              clear hs hbb
              go_wp2
              refine ⟨⟨(fun e => by cases e), (fun e => by cases e)⟩, ⟨z.setCell (.inr ⟨rfl, by simp⟩) _, rfl⟩, ?_⟩
              have hset := HS.out.set 0 (.int .i64 (d))
              have hL' := HL.out
              simp only [hL', cond_false] at hset
              simpa [upd, hL'] using hset
            go_simp
            with_reducible refine hK _ ?_
            clear hK K
            refine lx_next 2 (by rfl) (by decide) ?_
            dsimp only [List.take, List.drop]
            repeat (go_big_quiet_step (fail))
            refine wpQuiet_nil ?_
            refine lx_loud (by rfl) (by kernel_rfl) ?_ (fun K hK => ?_)
            · intro L w3 hL hd hcl hC hs
              obtain ⟨z, rfl⟩ := hC
              have hbb : Blk z.world k #[.int .i64 (bif L 16 then d else yl), .int .i64 (bif L 19 then yh else yh), .int .i64 p2, .int .i64 p3, .bool true] := hs
              have f0 := hbb.frozen 1
              have q0 := hbb.cell 1 rfl
              have ql := hbb.lt
              have HS := Lib.hid hbb
              have HL := Lib.hid hL
              clear hs hbb
              go_wp2
              refine ⟨⟨(fun e => by cases e), (fun e => by cases e)⟩, ⟨z.setCell (.inr ⟨rfl, by simp⟩) _, rfl⟩, ?_⟩
              have hset := HS.out.set 1 (.int .i64 (yh))
              have hL' := HL.out
              simp only [hL', cond_false] at hset
              simpa [upd, hL'] using hset
            go_simp
            with_reducible refine hK _ ?_
            clear hK K
            refine lx_nil ?_
            intro z hG
            have hG2 : Blk z.world k #[.int .i64 (bif true then d else yl), .int .i64 (bif true then yh else yh), .int .i64 p2, .int .i64 p3, .bool true] := hG
            simp only [cond_true] at hG2
            have HB5 : Hid (Blk z.world k #[.int .i64 (min yl d), .int .i64 (max yh d), .int .i64 p2, .int .i64 p3, .bool true]) := Lib.hid (by rw [show min yl d = d by omega, show max yh d = yh by omega]; exact hG2)
            have HC5 := Lib.hid (z.chg.mono (T := fun j => j = k) (fun j _ ⟨_, h⟩ => h.1))
            clear hG hG2 hT hne u5 u11
            generalize z.world = w7 at *
            have HIT7 := Lib.hid (HIT5.out.chg HC5.out hrk hmk)
            have HC7 := Lib.hid (HC6.out.trans (HC5.out.mono fun j _ e => .inl e))
            have HLE7 : Hid (itLeft w7 r m < itLeft wr r m) := Lib.hid (by have h := HLEN.out; rw [HIT5.out.count] at h; rw [HIT7.out.count]; exact h)
            go_wp2
            go_roundw
            case rel =>
              refine ⟨pre ++ post, true, tn, HIT7.out, HN2.out, fun q => ?_, ?_, HC7.out⟩
              · rw [HQ2.out q, HLS.out q]
                unfold spS
                obtain ⟨q1, q2⟩ := q
                cases q1 <;> simp
              · have hb := HB5.out
                rw [← HP2.out, ← HP3.out] at hb
                exact hb
            case measure => exact HLE7.out
          case neg =>
            go_upto_region 6 with fail
            refine wp_region_lat (by kernel_rfl) (fun b o => b = k ∧ (o = 0 ∨ o = 1)) (fun j => j == 5 || (j == 11 || (j == 16 || j == 19))) (exR yl yh) (fun L _ w' => Blk w' k #[.int .i64 (bif L 16 then d else yl), .int .i64 (bif L 19 then d else yh), .int .i64 p2, .int .i64 p3, .bool true])
              (by kernel_rfl) (fun j hj => by simp at hj; rcases hj with rfl | rfl | rfl | rfl <;> decide) (fun L L' _ _ hh hb => by rw [hh 16 rfl, hh 19 rfl]; exact hb) (fun L _ w' w'' hb hx => hb.ext hx)
              (fun j => if j = 5 then .int .i64 yl else .int .i64 yh) (fun j _ => ⟨fun e => by subst e; rfl, fun e => by subst e; rfl⟩) HBQ'.out.drew ?_
            intro T hT hne u hu
            have u5 : u 5 = .int .i64 yl := (hu 5 rfl).1 rfl
            have u11 : u 11 = .int .i64 yh := (hu 11 rfl).2 rfl
            clear hu
            refine lx_next 5 (by rfl) (by decide) ?_
            dsimp only [List.take, List.drop]
            repeat (go_big_quiet_step (fail))
            refine wpQuiet_nil ?_
            refine lx_loud (by rfl) (by kernel_rfl) ?_ (fun K hK => ?_)
            · intro L w3 hL hd hcl hC hs
              obtain ⟨z, rfl⟩ := hC
              have h16 := hcl.off hL 40 16 (by kernel_rfl)
              have h19 := hcl.off hL 40 19 (by kernel_rfl)
              have hbb : Blk z.world k #[.int .i64 (bif L 16 then d else yl), .int .i64 (bif L 19 then d else yh), .int .i64 p2, .int .i64 p3, .bool true] := hs
              have HS := Lib.hid hbb
              simp only [h16, h19, cond_false] at hbb
              have q0 := hbb.cell 0 (v := .int .i64 yl) rfl
              have ql := hbb.lt
              clear hs hbb
              go_wp2
              exact ⟨⟨(fun e => by first | rfl | cases e), (fun e => by first | rfl | cases e)⟩, ⟨z, rfl⟩, by have := HS.out; simpa [upd] using this⟩
            rw [u5]
            go_simp
            with_reducible refine hK _ ?_
            clear hK K
            refine lx_next 5 (by rfl) (by decide) ?_
            dsimp only [List.take, List.drop]
            repeat (go_big_quiet_step (fail))
            refine wpQuiet_nil ?_
            refine lx_loud (by rfl) (by kernel_rfl) ?_ (fun K hK => ?_)
            · intro L w3 hL hd hcl hC hs
              obtain ⟨z, rfl⟩ := hC
              have h16 := hcl.off hL 40 16 (by kernel_rfl)
              have h19 := hcl.off hL 40 19 (by kernel_rfl)
              have hbb : Blk z.world k #[.int .i64 (bif L 16 then d else yl), .int .i64 (bif L 19 then d else yh), .int .i64 p2, .int .i64 p3, .bool true] := hs
              have HS := Lib.hid hbb
              simp only [h16, h19, cond_false] at hbb
              have q0 := hbb.cell 1 (v := .int .i64 yh) rfl
              have ql := hbb.lt
              clear hs hbb
              go_wp2
              exact ⟨⟨(fun e => by first | rfl | cases e), (fun e => by first | rfl | cases e)⟩, ⟨z, rfl⟩, by have := HS.out; simpa [upd] using this⟩
            rw [u11]
            go_simp
            with_reducible refine hK _ ?_
            clear hK K
            refine lx_next 4 (by rfl) (by decide) ?_
            dsimp only [List.take, List.drop]
            repeat (go_big_quiet_step (fail))
            refine wpQuiet_nil ?_
            refine lx_loud (by rfl) (by kernel_rfl) ?_ (fun K hK => ?_)
            · intro L w3 hL hd hcl hC hs
              obtain ⟨z, rfl⟩ := hC
              have hbb : Blk z.world k #[.int .i64 (bif L 16 then d else yl), .int .i64 (bif L 19 then d else yh), .int .i64 p2, .int .i64 p3, .bool true] := hs
              have f0 := hbb.frozen 0
              have q0 := hbb.cell 0 rfl
              have ql := hbb.lt
              have HS := Lib.hid hbb
              have HL := Lib.hid hL
              clear hs hbb
              go_wp2
              refine ⟨⟨(fun e => by cases e), (fun e => by cases e)⟩, ⟨z.setCell (.inr ⟨rfl, by simp⟩) _, rfl⟩, ?_⟩
              have hset := HS.out.set 0 (.int .i64 (d))
              have hL' := HL.out
              simp only [hL', cond_false] at hset
              simpa [upd, hL'] using hset
            go_simp
            with_reducible refine hK _ ?_
            clear hK K
            refine lx_next 2 (by rfl) (by decide) ?_
            dsimp only [List.take, List.drop]
            repeat (go_big_quiet_step (fail))
            refine wpQuiet_nil ?_
            refine lx_loud (by rfl) (by kernel_rfl) ?_ (fun K hK => ?_)
            · intro L w3 hL hd hcl hC hs
              obtain ⟨z, rfl⟩ := hC
              have hbb : Blk z.world k #[.int .i64 (bif L 16 then d else yl), .int .i64 (bif L 19 then d else yh), .int .i64 p2, .int .i64 p3, .bool true] := hs
              have f0 := hbb.frozen 1
              have q0 := hbb.cell 1 rfl
              have ql := hbb.lt
              have HS := Lib.hid hbb
              have HL := Lib.hid hL
              clear hs hbb
              go_wp2
              refine ⟨⟨(fun e => by cases e), (fun e => by cases e)⟩, ⟨z.setCell (.inr ⟨rfl, by simp⟩) _, rfl⟩, ?_⟩
              have hset := HS.out.set 1 (.int .i64 (d))
              have hL' := HL.out
              simp only [hL', cond_false] at hset
              simpa [upd, hL'] using hset
            go_simp
            with_reducible refine hK _ ?_
            clear hK K
            refine lx_nil ?_
            intro z hG
            have hG2 : Blk z.world k #[.int .i64 (bif true then d else yl), .int .i64 (bif true then d else yh), .int .i64 p2, .int .i64 p3, .bool true] := hG
            simp only [cond_true] at hG2
            have HB5 : Hid (Blk z.world k #[.int .i64 (min yl d), .int .i64 (max yh d), .int .i64 p2, .int .i64 p3, .bool true]) := Lib.hid (by rw [show min yl d = d by omega, show max yh d = d by omega]; exact hG2)
            have HC5 := Lib.hid (z.chg.mono (T := fun j => j = k) (fun j _ ⟨_, h⟩ => h.1))
            clear hG hG2 hT hne u5 u11
            generalize z.world = w7 at *
            have HIT7 := Lib.hid (HIT5.out.chg HC5.out hrk hmk)
            have HC7 := Lib.hid (HC6.out.trans (HC5.out.mono fun j _ e => .inl e))
            have HLE7 : Hid (itLeft w7 r m < itLeft wr r m) := Lib.hid (by have h := HLEN.out; rw [HIT5.out.count] at h; rw [HIT7.out.count]; exact h)
            go_wp2
            go_roundw
            case rel =>
              refine ⟨pre ++ post, true, tn, HIT7.out, HN2.out, fun q => ?_, ?_, HC7.out⟩
              · rw [HQ2.out q, HLS.out q]
                unfold spS
                obtain ⟨q1, q2⟩ := q
                cases q1 <;> simp
              · have hb := HB5.out
                rw [← HP2.out, ← HP3.out] at hb
                exact hb
            case measure => exact HLE7.out
      · obtain ⟨h1, h2⟩ : (!tn) = true ∧ y = t := by simpa using hin
        obtain rfl : tn = false := by simpa using h1
        have h3 := h2.symm
        subst h3
        clear h1 h2 hin
        simp only [spK] at hen
        have HBQ' : Hid (Blk w5 k #[.int .i64 (bif dn then min yl d else yl), .int .i64 (bif dn then max yh d else yh), .int .i64 ul, .int .i64 uh, .bool true]) := Lib.hid HBQ
        obtain ⟨p0, hp2⟩ : ∃ p, (bif dn then min yl d else yl) = p := ⟨_, rfl⟩
        obtain ⟨p1, hp3⟩ : ∃ p, (bif dn then max yh d else yh) = p := ⟨_, rfl⟩
        rw [hp2, hp3] at HBQ'
        have HP2 := Lib.hid hp2
        have HP3 := Lib.hid hp3
        clear hp2 hp3 HBQ
        by_cases hlo : ul ≤ t
        case pos =>
          by_cases hhi : t ≤ uh
          case pos =>
            go_upto_region 6 with fail
            refine wp_region_lat (by kernel_rfl) (fun b o => b = k ∧ (o = 2 ∨ o = 3)) (fun j => j == 5 || (j == 11 || (j == 16 || j == 19))) (exR ul uh) (fun L _ w' => Blk w' k #[.int .i64 p0, .int .i64 p1, .int .i64 (bif L 16 then ul else ul), .int .i64 (bif L 19 then uh else uh), .bool true])
              (by kernel_rfl) (fun j hj => by simp at hj; rcases hj with rfl | rfl | rfl | rfl <;> decide) (fun L L' _ _ hh hb => by rw [hh 16 rfl, hh 19 rfl]; exact hb) (fun L _ w' w'' hb hx => hb.ext hx)
              (fun j => if j = 5 then .int .i64 ul else .int .i64 uh) (fun j _ => ⟨fun e => by subst e; rfl, fun e => by subst e; rfl⟩) HBQ'.out.drew ?_
            intro T hT hne u hu
            have u5 : u 5 = .int .i64 ul := (hu 5 rfl).1 rfl
            have u11 : u 11 = .int .i64 uh := (hu 11 rfl).2 rfl
            clear hu
            refine lx_next 5 (by rfl) (by decide) ?_
            dsimp only [List.take, List.drop]
            repeat (go_big_quiet_step (fail))
            refine wpQuiet_nil ?_
            refine lx_loud (by rfl) (by kernel_rfl) ?_ (fun K hK => ?_)
            · intro L w3 hL hd hcl hC hs
              obtain ⟨z, rfl⟩ := hC
              have h16 := hcl.off hL 40 16 (by kernel_rfl)
              have h19 := hcl.off hL 40 19 (by kernel_rfl)
              have hbb : Blk z.world k #[.int .i64 p0, .int .i64 p1, .int .i64 (bif L 16 then ul else ul), .int .i64 (bif L 19 then uh else uh), .bool true] := hs
              have HS := Lib.hid hbb
              simp only [h16, h19, cond_false] at hbb
              have q0 := hbb.cell 2 (v := .int .i64 ul) rfl
              have ql := hbb.lt
              clear hs hbb
              go_wp2
              exact ⟨⟨(fun e => by first | rfl | cases e), (fun e => by first | rfl | cases e)⟩, ⟨z, rfl⟩, by have := HS.out; simpa [upd] using this⟩
            rw [u5]
            go_simp
            with_reducible refine hK _ ?_
            clear hK K
            refine lx_next 5 (by rfl) (by decide) ?_
            dsimp only [List.take, List.drop]
            repeat (go_big_quiet_step (fail))
            refine wpQuiet_nil ?_
            refine lx_loud (by rfl) (by kernel_rfl) ?_ (fun K hK => ?_)
            · intro L w3 hL hd hcl hC hs
              obtain ⟨z, rfl⟩ := hC
              have h16 := hcl.off hL 40 16 (by kernel_rfl)
              have h19 := hcl.off hL 40 19 (by kernel_rfl)
              have hbb : Blk z.world k #[.int .i64 p0, .int .i64 p1, .int .i64 (bif L 16 then ul else ul), .int .i64 (bif L 19 then uh else uh), .bool true] := hs
              have HS := Lib.hid hbb
              simp only [h16, h19, cond_false] at hbb
              have q0 := hbb.cell 3 (v := .int .i64 uh) rfl
              have ql := hbb.lt
              clear hs hbb
              go_wp2
              exact ⟨⟨(fun e => by first | rfl | cases e), (fun e => by first | rfl | cases e)⟩, ⟨z, rfl⟩, by have := HS.out; simpa [upd] using this⟩
            rw [u11]
            go_simp
            with_reducible refine hK _ ?_
            clear hK K
            refine lx_next 4 (by rfl) (by decide) ?_
            dsimp only [List.take, List.drop]
            repeat (go_big_quiet_step (fail))
            refine wpQuiet_nil ?_
            refine lx_loud (by rfl) (by kernel_rfl) ?_ (fun K hK => ?_)
            · intro L w3 hL hd hcl hC hs
              obtain ⟨z, rfl⟩ := hC
              have hbb : Blk z.world k #[.int .i64 p0, .int .i64 p1, .int .i64 (bif L 16 then ul else ul), .int .i64 (bif L 19 then uh else uh), .bool true] := hs
              have f0 := hbb.frozen 2
              have q0 := hbb.cell 2 rfl
              have ql := hbb.lt
              have HS := Lib.hid hbb
              have HL := Lib.hid hL
              clear hs hbb
              go_wp2
              refine ⟨⟨(fun e => by cases e), (fun e => by cases e)⟩, ⟨z.setCell (.inr ⟨rfl, by simp⟩) _, rfl⟩, ?_⟩
              have hset := HS.out.set 2 (.int .i64 (ul))
              have hL' := HL.out
              simp only [hL', cond_false] at hset
              simpa [upd, hL'] using hset
            go_simp
            with_reducible refine hK _ ?_
            clear hK K
            refine lx_next 2 (by rfl) (by decide) ?_
            dsimp only [List.take, List.drop]
            repeat (go_big_quiet_step (fail))
            refine wpQuiet_nil ?_
            refine lx_loud (by rfl) (by kernel_rfl) ?_ (fun K hK => ?_)
            · intro L w3 hL hd hcl hC hs
              obtain ⟨z, rfl⟩ := hC
              have hbb : Blk z.world k #[.int .i64 p0, .int .i64 p1, .int .i64 (bif L 16 then ul else ul), .int .i64 (bif L 19 then uh else uh), .bool true] := hs
              have f0 := hbb.frozen 3
              have q0 := hbb.cell 3 rfl
              have ql := hbb.lt
              have HS := Lib.hid hbb
              have HL := Lib.hid hL
              clear hs hbb
              go_wp2
              refine ⟨⟨(fun e => by cases e), (fun e => by cases e)⟩, ⟨z.setCell (.inr ⟨rfl, by simp⟩) _, rfl⟩, ?_⟩
              have hset := HS.out.set 3 (.int .i64 (uh))
              have hL' := HL.out
              simp only [hL', cond_false] at hset
              simpa [upd, hL'] using hset
            go_simp
            with_reducible refine hK _ ?_
            clear hK K
            refine lx_nil ?_
            intro z hG
            have hG2 : Blk z.world k #[.int .i64 p0, .int .i64 p1, .int .i64 (bif true then ul else ul), .int .i64 (bif true then uh else uh), .bool true] := hG
            simp only [cond_true] at hG2
            have HB5 : Hid (Blk z.world k #[.int .i64 p0, .int .i64 p1, .int .i64 (min ul t), .int .i64 (max uh t), .bool true]) := Lib.hid (by rw [show min ul t = ul by omega, show max uh t = uh by omega]; exact hG2)
            have HC5 := Lib.hid (z.chg.mono (T := fun j => j = k) (fun j _ ⟨_, h⟩ => h.1))
            clear hG hG2 hT hne u5 u11
            generalize z.world = w7 at *
            have HIT7 := Lib.hid (HIT5.out.chg HC5.out hrk hmk)
            have HC7 := Lib.hid (HC6.out.trans (HC5.out.mono fun j _ e => .inl e))
            have HLE7 : Hid (itLeft w7 r m < itLeft wr r m) := Lib.hid (by have h := HLEN.out; rw [HIT5.out.count] at h; rw [HIT7.out.count]; exact h)
            go_wp2
            go_roundw
            case rel =>
              refine ⟨pre ++ post, dn, true, HIT7.out, HN2.out, fun q => ?_, ?_, HC7.out⟩
              · rw [HQ2.out q, HLS.out q]
                unfold spS
                obtain ⟨q1, q2⟩ := q
                cases q1 <;> simp
              · have hb := HB5.out
                rw [← HP2.out, ← HP3.out] at hb
                exact hb
            case measure => exact HLE7.out
          case neg =>
            go_upto_region 6 with fail
            refine wp_region_lat (by kernel_rfl) (fun b o => b = k ∧ (o = 2 ∨ o = 3)) (fun j => j == 5 || (j == 11 || (j == 16 || j == 19))) (exR ul uh) (fun L _ w' => Blk w' k #[.int .i64 p0, .int .i64 p1, .int .i64 (bif L 16 then ul else ul), .int .i64 (bif L 19 then t else uh), .bool true])
              (by kernel_rfl) (fun j hj => by simp at hj; rcases hj with rfl | rfl | rfl | rfl <;> decide) (fun L L' _ _ hh hb => by rw [hh 16 rfl, hh 19 rfl]; exact hb) (fun L _ w' w'' hb hx => hb.ext hx)
              (fun j => if j = 5 then .int .i64 ul else .int .i64 uh) (fun j _ => ⟨fun e => by subst e; rfl, fun e => by subst e; rfl⟩) HBQ'.out.drew ?_
            intro T hT hne u hu
            have u5 : u 5 = .int .i64 ul := (hu 5 rfl).1 rfl
            have u11 : u 11 = .int .i64 uh := (hu 11 rfl).2 rfl
            clear hu
            refine lx_next 5 (by rfl) (by decide) ?_
            dsimp only [List.take, List.drop]
            repeat (go_big_quiet_step (fail))
            refine wpQuiet_nil ?_
            refine lx_loud (by rfl) (by kernel_rfl) ?_ (fun K hK => ?_)
            · intro L w3 hL hd hcl hC hs
              obtain ⟨z, rfl⟩ := hC
              have h16 := hcl.off hL 40 16 (by kernel_rfl)
              have h19 := hcl.off hL 40 19 (by kernel_rfl)
              have hbb : Blk z.world k #[.int .i64 p0, .int .i64 p1, .int .i64 (bif L 16 then ul else ul), .int .i64 (bif L 19 then t else uh), .bool true] := hs
              have HS := Lib.hid hbb
              simp only [h16, h19, cond_false] at hbb
              have q0 := hbb.cell 2 (v := .int .i64 ul) rfl
              have ql := hbb.lt
              clear hs hbb
              go_wp2
              exact ⟨⟨(fun e => by first | rfl | cases e), (fun e => by first | rfl | cases e)⟩, ⟨z, rfl⟩, by have := HS.out; simpa [upd] using this⟩
            rw [u5]
            go_simp
            with_reducible refine hK _ ?_
            clear hK K
            refine lx_next 5 (by rfl) (by decide) ?_
            dsimp only [List.take, List.drop]
            repeat (go_big_quiet_step (fail))
            refine wpQuiet_nil ?_
            refine lx_loud (by rfl) (by kernel_rfl) ?_ (fun K hK => ?_)
            · intro L w3 hL hd hcl hC hs
              obtain ⟨z, rfl⟩ := hC
              have h16 := hcl.off hL 40 16 (by kernel_rfl)
              have h19 := hcl.off hL 40 19 (by kernel_rfl)
              have hbb : Blk z.world k #[.int .i64 p0, .int .i64 p1, .int .i64 (bif L 16 then ul else ul), .int .i64 (bif L 19 then t else uh), .bool true] := hs
              have HS := Lib.hid hbb
              simp only [h16, h19, cond_false] at hbb
              have q0 := hbb.cell 3 (v := .int .i64 uh) rfl
              have ql := hbb.lt
              clear hs hbb
              go_wp2
              exact ⟨⟨(fun e => by first | rfl | cases e), (fun e => by first | rfl | cases e)⟩, ⟨z, rfl⟩, by have := HS.out; simpa [upd] using this⟩
            rw [u11]
            go_simp
            with_reducible refine hK _ ?_
            clear hK K
            refine lx_next 4 (by rfl) (by decide) ?_
            dsimp only [List.take, List.drop]
            repeat (go_big_quiet_step (fail))
            refine wpQuiet_nil ?_
            refine lx_loud (by rfl) (by kernel_rfl) ?_ (fun K hK => ?_)
            · intro L w3 hL hd hcl hC hs
              obtain ⟨z, rfl⟩ := hC
              have hbb : Blk z.world k #[.int .i64 p0, .int .i64 p1, .int .i64 (bif L 16 then ul else ul), .int .i64 (bif L 19 then t else uh), .bool true] := hs
              have f0 := hbb.frozen 2
              have q0 := hbb.cell 2 rfl
              have ql := hbb.lt
              have HS := Lib.hid hbb
              have HL := Lib.hid hL
              clear hs hbb
              go_wp2
              refine ⟨⟨(fun e => by cases e), (fun e => by cases e)⟩, ⟨z.setCell (.inr ⟨rfl, by simp⟩) _, rfl⟩, ?_⟩
              have hset := HS.out.set 2 (.int .i64 (ul))
              have hL' := HL.out
              simp only [hL', cond_false] at hset
              simpa [upd, hL'] using hset
            go_simp
            with_reducible refine hK _ ?_
            clear hK K
            refine lx_next 2 (by rfl) (by decide) ?_
            dsimp only [List.take, List.drop]
            repeat (go_big_quiet_step (fail))
            refine wpQuiet_nil ?_
            refine lx_loud (by rfl) (by kernel_rfl) ?_ (fun K hK => ?_)
            · intro L w3 hL hd hcl hC hs
              obtain ⟨z, rfl⟩ := hC
              have hbb : Blk z.world k #[.int .i64 p0, .int .i64 p1, .int .i64 (bif L 16 then ul else ul), .int .i64 (bif L 19 then t else uh), .bool true] := hs
              have f0 := hbb.frozen 3
              have q0 := hbb.cell 3 rfl
              have ql := hbb.lt
              have HS := Lib.hid hbb
              have HL := Lib.hid hL
              clear hs hbb
              go_wp2
              refine ⟨⟨(fun e => by cases e), (fun e => by cases e)⟩, ⟨z.setCell (.inr ⟨rfl, by simp⟩) _, rfl⟩, ?_⟩
              have hset := HS.out.set 3 (.int .i64 (t))
              have hL' := HL.out
              simp only [hL', cond_false] at hset
              simpa [upd, hL'] using hset
            go_simp
            with_reducible refine hK _ ?_
            clear hK K
            refine lx_nil ?_
            intro z hG
            have hG2 : Blk z.world k #[.int .i64 p0, .int .i64 p1, .int .i64 (bif true then ul else ul), .int .i64 (bif true then t else uh), .bool true] := hG
            simp only [cond_true] at hG2
            have HB5 : Hid (Blk z.world k #[.int .i64 p0, .int .i64 p1, .int .i64 (min ul t), .int .i64 (max uh t), .bool true]) := Lib.hid (by rw [show min ul t = ul by omega, show max uh t = t by omega]; exact hG2)
            have HC5 := Lib.hid (z.chg.mono (T := fun j => j = k) (fun j _ ⟨_, h⟩ => h.1))
            clear hG hG2 hT hne u5 u11
            generalize z.world = w7 at *
            have HIT7 := Lib.hid (HIT5.out.chg HC5.out hrk hmk)
            have HC7 := Lib.hid (HC6.out.trans (HC5.out.mono fun j _ e => .inl e))
            have HLE7 : Hid (itLeft w7 r m < itLeft wr r m) := Lib.hid (by have h := HLEN.out; rw [HIT5.out.count] at h; rw [HIT7.out.count]; exact h)
            go_wp2
            go_roundw
            case rel =>
              refine ⟨pre ++ post, dn, true, HIT7.out, HN2.out, fun q => ?_, ?_, HC7.out⟩
              · rw [HQ2.out q, HLS.out q]
                unfold spS
                obtain ⟨q1, q2⟩ := q
                cases q1 <;> simp
              · have hb := HB5.out
                rw [← HP2.out, ← HP3.out] at hb
                exact hb
            case measure => exact HLE7.out
        case neg =>
          by_cases hhi : t ≤ uh
          case pos =>
            go_upto_region 6 with fail
            refine wp_region_lat (by kernel_rfl) (fun b o => b = k ∧ (o = 2 ∨ o = 3)) (fun j => j == 5 || (j == 11 || (j == 16 || j == 19))) (exR ul uh) (fun L _ w' => Blk w' k #[.int .i64 p0, .int .i64 p1, .int .i64 (bif L 16 then t else ul), .int .i64 (bif L 19 then uh else uh), .bool true])
              (by kernel_rfl) (fun j hj => by simp at hj; rcases hj with rfl | rfl | rfl | rfl <;> decide) (fun L L' _ _ hh hb => by rw [hh 16 rfl, hh 19 rfl]; exact hb) (fun L _ w' w'' hb hx => hb.ext hx)
              (fun j => if j = 5 then .int .i64 ul else .int .i64 uh) (fun j _ => ⟨fun e => by subst e; rfl, fun e => by subst e; rfl⟩) HBQ'.out.drew ?_
            intro T hT hne u hu
            have u5 : u 5 = .int .i64 ul := (hu 5 rfl).1 rfl
            have u11 : u 11 = .int .i64 uh := (hu 11 rfl).2 rfl
            clear hu
            refine lx_next 5 (by rfl) (by decide) ?_
            dsimp only [List.take, List.drop]
            repeat (go_big_quiet_step (fail))
            refine wpQuiet_nil ?_
            refine lx_loud (by rfl) (by kernel_rfl) ?_ (fun K hK => ?_)
            · intro L w3 hL hd hcl hC hs
              obtain ⟨z, rfl⟩ := hC
              have h16 := hcl.off hL 40 16 (by kernel_rfl)
              have h19 := hcl.off hL 40 19 (by kernel_rfl)
              have hbb : Blk z.world k #[.int .i64 p0, .int .i64 p1, .int .i64 (bif L 16 then t else ul), .int .i64 (bif L 19 then uh else uh), .bool true] := hs
              have HS := Lib.hid hbb
              simp only [h16, h19, cond_false] at hbb
              have q0 := hbb.cell 2 (v := .int .i64 ul) rfl
              have ql := hbb.lt
              clear hs hbb
              go_wp2
              exact ⟨⟨(fun e => by first | rfl | cases e), (fun e => by first | rfl | cases e)⟩, ⟨z, rfl⟩, by have := HS.out; simpa [upd] using this⟩
            rw [u5]
            go_simp
            with_reducible refine hK _ ?_
            clear hK K
            refine lx_next 5 (by rfl) (by decide) ?_
            dsimp only [List.take, List.drop]
            repeat (go_big_quiet_step (fail))
            refine wpQuiet_nil ?_
            refine lx_loud (by rfl) (by kernel_rfl) ?_ (fun K hK => ?_)
            · intro L w3 hL hd hcl hC hs
              obtain ⟨z, rfl⟩ := hC
              have h16 := hcl.off hL 40 16 (by kernel_rfl)
              have h19 := hcl.off hL 40 19 (by kernel_rfl)
              have hbb : Blk z.world k #[.int .i64 p0, .int .i64 p1, .int .i64 (bif L 16 then t else ul), .int .i64 (bif L 19 then uh else uh), .bool true] := hs
              have HS := Lib.hid hbb
              simp only [h16, h19, cond_false] at hbb
              have q0 := hbb.cell 3 (v := .int .i64 uh) rfl
              have ql := hbb.lt
              clear hs hbb
              go_wp2
              exact ⟨⟨(fun e => by first | rfl | cases e), (fun e => by first | rfl | cases e)⟩, ⟨z, rfl⟩, by have := HS.out; simpa [upd] using this⟩
            rw [u11]
            go_simp
            with_reducible refine hK _ ?_
            clear hK K
            refine lx_next 4 (by rfl) (by decide) ?_
            dsimp only [List.take, List.drop]
            repeat (go_big_quiet_step (fail))
            refine wpQuiet_nil ?_
            refine lx_loud (by rfl) (by kernel_rfl) ?_ (fun K hK => ?_)
            · intro L w3 hL hd hcl hC hs
              obtain ⟨z, rfl⟩ := hC
              have hbb : Blk z.world k #[.int .i64 p0, .int .i64 p1, .int .i64 (bif L 16 then t else ul), .int .i64 (bif L 19 then uh else uh), .bool true] := hs
              have f0 := hbb.frozen 2
              have q0 := hbb.cell 2 rfl
              have ql := hbb.lt
              have HS := Lib.hid hbb
              have HL := Lib.hid hL
              clear hs hbb
              go_wp2
              refine ⟨⟨(fun e => by cases e), (fun e => by cases e)⟩, ⟨z.setCell (.inr ⟨rfl, by simp⟩) _, rfl⟩, ?_⟩
              have hset := HS.out.set 2 (.int .i64 (t))
              have hL' := HL.out
              simp only [hL', cond_false] at hset
              simpa [upd, hL'] using hset
            go_simp
            with_reducible refine hK _ ?_
            clear hK K
            refine lx_next 2 (by rfl) (by decide) ?_
            dsimp only [List.take, List.drop]
            repeat (go_big_quiet_step (fail))
            refine wpQuiet_nil ?_
            refine lx_loud (by rfl) (by kernel_rfl) ?_ (fun K hK => ?_)
            · intro L w3 hL hd hcl hC hs
              obtain ⟨z, rfl⟩ := hC
              have hbb : Blk z.world k #[.int .i64 p0, .int .i64 p1, .int .i64 (bif L 16 then t else ul), .int .i64 (bif L 19 then uh else uh), .bool true] := hs
              have f0 := hbb.frozen 3
              have q0 := hbb.cell 3 rfl
              have ql := hbb.lt
              have HS := Lib.hid hbb
              have HL := Lib.hid hL
              clear hs hbb
              go_wp2
              refine ⟨⟨(fun e => by cases e), (fun e => by cases e)⟩, ⟨z.setCell (.inr ⟨rfl, by simp⟩) _, rfl⟩, ?_⟩
              have hset := HS.out.set 3 (.int .i64 (uh))
              have hL' := HL.out
              simp only [hL', cond_false] at hset
              simpa [upd, hL'] using hset
            go_simp
            with_reducible refine hK _ ?_
            clear hK K
            refine lx_nil ?_
            intro z hG
            have hG2 : Blk z.world k #[.int .i64 p0, .int .i64 p1, .int .i64 (bif true then t else ul), .int .i64 (bif true then uh else uh), .bool true] := hG
            simp only [cond_true] at hG2
            have HB5 : Hid (Blk z.world k #[.int .i64 p0, .int .i64 p1, .int .i64 (min ul t), .int .i64 (max uh t), .bool true]) := Lib.hid (by rw [show min ul t = t by omega, show max uh t = uh by omega]; exact hG2)
            have HC5 := Lib.hid (z.chg.mono (T := fun j => j = k) (fun j _ ⟨_, h⟩ => h.1))
            clear hG hG2 hT hne u5 u11
            generalize z.world = w7 at *
            have HIT7 := Lib.hid (HIT5.out.chg HC5.out hrk hmk)
            have HC7 := Lib.hid (HC6.out.trans (HC5.out.mono fun j _ e => .inl e))
            have HLE7 : Hid (itLeft w7 r m < itLeft wr r m) := Lib.hid (by have h := HLEN.out; rw [HIT5.out.count] at h; rw [HIT7.out.count]; exact h)
            go_wp2
            go_roundw
            case rel =>
              refine ⟨pre ++ post, dn, true, HIT7.out, HN2.out, fun q => ?_, ?_, HC7.out⟩
              · rw [HQ2.out q, HLS.out q]
                unfold spS
                obtain ⟨q1, q2⟩ := q
                cases q1 <;> simp
              · have hb := HB5.out
                rw [← HP2.out, ← HP3.out] at hb
                exact hb
            case measure => exact HLE7.out
          case neg =>
            go_upto_region 6 with fail
            refine wp_region_lat (by kernel_rfl) (fun b o => b = k ∧ (o = 2 ∨ o = 3)) (fun j => j == 5 || (j == 11 || (j == 16 || j == 19))) (exR ul uh) (fun L _ w' => Blk w' k #[.int .i64 p0, .int .i64 p1, .int .i64 (bif L 16 then t else ul), .int .i64 (bif L 19 then t else uh), .bool true])
              (by kernel_rfl) (fun j hj => by simp at hj; rcases hj with rfl | rfl | rfl | rfl <;> decide) (fun L L' _ _ hh hb => by rw [hh 16 rfl, hh 19 rfl]; exact hb) (fun L _ w' w'' hb hx => hb.ext hx)
              (fun j => if j = 5 then .int .i64 ul else .int .i64 uh) (fun j _ => ⟨fun e => by subst e; rfl, fun e => by subst e; rfl⟩) HBQ'.out.drew ?_
            intro T hT hne u hu
            have u5 : u 5 = .int .i64 ul := (hu 5 rfl).1 rfl
            have u11 : u 11 = .int .i64 uh := (hu 11 rfl).2 rfl
            clear hu
            refine lx_next 5 (by rfl) (by decide) ?_
            dsimp only [List.take, List.drop]
            repeat (go_big_quiet_step (fail))
            refine wpQuiet_nil ?_
            refine lx_loud (by rfl) (by kernel_rfl) ?_ (fun K hK => ?_)
            · intro L w3 hL hd hcl hC hs
              obtain ⟨z, rfl⟩ := hC
              have h16 := hcl.off hL 40 16 (by kernel_rfl)
              have h19 := hcl.off hL 40 19 (by kernel_rfl)
              have hbb : Blk z.world k #[.int .i64 p0, .int .i64 p1, .int .i64 (bif L 16 then t else ul), .int .i64 (bif L 19 then t else uh), .bool true] := hs
              have HS := Lib.hid hbb
              simp only [h16, h19, cond_false] at hbb
              have q0 := hbb.cell 2 (v := .int .i64 ul) rfl
              have ql := hbb.lt
              clear hs hbb
              go_wp2
              exact ⟨⟨(fun e => by first | rfl | cases e), (fun e => by first | rfl | cases e)⟩, ⟨z, rfl⟩, by have := HS.out; simpa [upd] using this⟩
            rw [u5]
            go_simp
            with_reducible refine hK _ ?_
            clear hK K
            refine lx_next 5 (by rfl) (by decide) ?_
            dsimp only [List.take, List.drop]
            repeat (go_big_quiet_step (fail))
            refine wpQuiet_nil ?_
            refine lx_loud (by rfl) (by kernel_rfl) ?_ (fun K hK => ?_)
            · intro L w3 hL hd hcl hC hs
              obtain ⟨z, rfl⟩ := hC
              have h16 := hcl.off hL 40 16 (by kernel_rfl)
              have h19 := hcl.off hL 40 19 (by kernel_rfl)
              have hbb : Blk z.world k #[.int .i64 p0, .int .i64 p1, .int .i64 (bif L 16 then t else ul), .int .i64 (bif L 19 then t else uh), .bool true] := hs
              have HS := Lib.hid hbb
              simp only [h16, h19, cond_false] at hbb
              have q0 := hbb.cell 3 (v := .int .i64 uh) rfl
              have ql := hbb.lt
              clear hs hbb
              go_wp2
              exact ⟨⟨(fun e => by first | rfl | cases e), (fun e => by first | rfl | cases e)⟩, ⟨z, rfl⟩, by have := HS.out; simpa [upd] using this⟩
            rw [u11]
            go_simp
            with_reducible refine hK _ ?_
            clear hK K
            refine lx_next 4 (by rfl) (by decide) ?_
            dsimp only [List.take, List.drop]
            repeat (go_big_quiet_step (fail))
            refine wpQuiet_nil ?_
            refine lx_loud (by rfl) (by kernel_rfl) ?_ (fun K hK => ?_)
            · intro L w3 hL hd hcl hC hs
              obtain ⟨z, rfl⟩ := hC
              have hbb : Blk z.world k #[.int .i64 p0, .int .i64 p1, .int .i64 (bif L 16 then t else ul), .int .i64 (bif L 19 then t else uh), .bool true] := hs
              have f0 := hbb.frozen 2
              have q0 := hbb.cell 2 rfl
              have ql := hbb.lt
              have HS := Lib.hid hbb
              have HL := Lib.hid hL
              clear hs hbb
              go_wp2
              refine ⟨⟨(fun e => by cases e), (fun e => by cases e)⟩, ⟨z.setCell (.inr ⟨rfl, by simp⟩) _, rfl⟩, ?_⟩
              have hset := HS.out.set 2 (.int .i64 (t))
              have hL' := HL.out
              simp only [hL', cond_false] at hset
              simpa [upd, hL'] using hset
            go_simp
            with_reducible refine hK _ ?_
            clear hK K
            refine lx_next 2 (by rfl) (by decide) ?_
            dsimp only [List.take, List.drop]
            repeat (go_big_quiet_step (fail))
            refine wpQuiet_nil ?_
            refine lx_loud (by rfl) (by kernel_rfl) ?_ (fun K hK => ?_)
            · intro L w3 hL hd hcl hC hs
              obtain ⟨z, rfl⟩ := hC
              have hbb : Blk z.world k #[.int .i64 p0, .int .i64 p1, .int .i64 (bif L 16 then t else ul), .int .i64 (bif L 19 then t else uh), .bool true] := hs
              have f0 := hbb.frozen 3
              have q0 := hbb.cell 3 rfl
              have ql := hbb.lt
              have HS := Lib.hid hbb
              have HL := Lib.hid hL
              clear hs hbb
              go_wp2
              refine ⟨⟨(fun e => by cases e), (fun e => by cases e)⟩, ⟨z.setCell (.inr ⟨rfl, by simp⟩) _, rfl⟩, ?_⟩
              have hset := HS.out.set 3 (.int .i64 (t))
              have hL' := HL.out
              simp only [hL', cond_false] at hset
              simpa [upd, hL'] using hset
            go_simp
            with_reducible refine hK _ ?_
            clear hK K
            refine lx_nil ?_
            intro z hG
            have hG2 : Blk z.world k #[.int .i64 p0, .int .i64 p1, .int .i64 (bif true then t else ul), .int .i64 (bif true then t else uh), .bool true] := hG
            simp only [cond_true] at hG2
            have HB5 : Hid (Blk z.world k #[.int .i64 p0, .int .i64 p1, .int .i64 (min ul t), .int .i64 (max uh t), .bool true]) := Lib.hid (by rw [show min ul t = t by omega, show max uh t = t by omega]; exact hG2)
            have HC5 := Lib.hid (z.chg.mono (T := fun j => j = k) (fun j _ ⟨_, h⟩ => h.1))
            clear hG hG2 hT hne u5 u11
            generalize z.world = w7 at *
            have HIT7 := Lib.hid (HIT5.out.chg HC5.out hrk hmk)
            have HC7 := Lib.hid (HC6.out.trans (HC5.out.mono fun j _ e => .inl e))
            have HLE7 : Hid (itLeft w7 r m < itLeft wr r m) := Lib.hid (by have h := HLEN.out; rw [HIT5.out.count] at h; rw [HIT7.out.count]; exact h)
            go_wp2
            go_roundw
            case rel =>
              refine ⟨pre ++ post, dn, true, HIT7.out, HN2.out, fun q => ?_, ?_, HC7.out⟩
              · rw [HQ2.out q, HLS.out q]
                unfold spS
                obtain ⟨q1, q2⟩ := q
                cases q1 <;> simp
              · have hb := HB5.out
                rw [← HP2.out, ← HP3.out] at hb
                exact hb
            case measure => exact HLE7.out
end Go.Proofs.Ytmopadnkjlodnaa
