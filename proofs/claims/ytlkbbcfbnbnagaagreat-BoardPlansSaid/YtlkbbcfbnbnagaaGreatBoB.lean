/-
  Package board: a board as data; its radii, one by one.
-/
import Derived.Test.YtlkbbcfbnbnagaaGreatBoA
import Derived.RangeFuncNested
import Derived.RangeFuncBound
import Derived.RangeFuncCalls
import Derived.RangeFuncLeaves
import Derived.Shelf.Abstract
import Derived.Shelf.RegionOpen
import Derived.WalkKit
import Derived.OwnWalkIn
import Derived.TacticsInMore
import Derived.LoopNIn
import Derived.LoopIn
namespace Go.Proofs.YtlkbbcfbnbnagaaGreat
open Go.RowKit Go.Shelf
attribute [local go_sem] Oper.semAt_some
structure Rg where
  outer : Int
  factor : Int
  deriving DecidableEq
structure Brd where
  eye : Int
  bull : Int
  rings : List Rg
  lines : List Pt
  nums : List Int
  wire : Int
def Brd.radii (b : Brd) : List Int := b.eye :: b.bull :: b.rings.map (·.outer)
def RgsAt (w : World) (a : Option Addr) (xs : List Rg) : Prop :=
  ∀ i, (h : i < xs.length) → ∃ b o, a = some ⟨b, o, none⟩ ∧ w.cell? ⟨b, o + i * 2, none⟩ = some (.int .i64 xs[i].outer) ∧ w.cell? ⟨b, o + i * 2 + 1, none⟩ = some (.int .i64 xs[i].factor)
theorem RgsAt.ext {w w' : World} {a : Option Addr} {xs : List Rg} (h : RgsAt w a xs) (he : Ext w w') : RgsAt w' a xs := fun i hi => by
  obtain ⟨b, o, e, h0, h1⟩ := h i hi
  exact ⟨b, o, e, he.cell h0, he.cell h1⟩
def PtsAt (w : World) (a : Option Addr) (xs : List Pt) : Prop :=
  ∀ i, (h : i < xs.length) → ∃ b o, a = some ⟨b, o, none⟩ ∧ w.cell? ⟨b, o + i * 2, none⟩ = some (.int .i64 xs[i].x) ∧ w.cell? ⟨b, o + i * 2 + 1, none⟩ = some (.int .i64 xs[i].y)
theorem PtsAt.ext {w w' : World} {a : Option Addr} {xs : List Pt} (h : PtsAt w a xs) (he : Ext w w') : PtsAt w' a xs := fun i hi => by
  obtain ⟨b, o, e, h0, h1⟩ := h i hi
  exact ⟨b, o, e, he.cell h0, he.cell h1⟩
/-- A board's value. -/
structure BrdV where
  (ra la na : Option Addr)
  (rc lc nc : Nat)
def BrdV.cells (v : BrdV) (b : Brd) : Array Value := #[.int .i64 b.eye, .int .i64 b.bull, .slice v.ra b.rings.length v.rc, .slice v.la b.lines.length v.lc, .slice v.na b.nums.length v.nc, .int .i64 b.wire]
structure BrdAt (w : World) (v : BrdV) (b : Brd) : Prop where
  rings : RgsAt w v.ra b.rings
  lines : PtsAt w v.la b.lines
  nums : CellsAt w .i64 v.na b.nums
theorem BrdAt.ext {w w' : World} {v : BrdV} {b : Brd} (h : BrdAt w v b) (hx : Ext w w') : BrdAt w' v b := ⟨h.rings.ext hx, h.lines.ext hx, h.nums.ext hx⟩
/-- The blocks of a board's copy and of its rings. -/
def RadK (Bb : Nat) (ra : Option Addr) (k : Nat) : Prop := k = Bb ∨ ∃ o, ra = some ⟨k, o, none⟩
structure RadW (Bb : Nat) (b : Brd) (ra : Option Addr) (rc : Nat) (W : World) : Prop where
  c0 : W.cell? ⟨Bb, 0, none⟩ = some (.int .i64 b.eye)
  c1 : W.cell? ⟨Bb, 1, none⟩ = some (.int .i64 b.bull)
  c2 : W.cell? ⟨Bb, 2, none⟩ = some (.slice ra b.rings.length rc)
  rg : RgsAt W ra b.rings
theorem RadW.kept {Bb : Nat} {b : Brd} {ra : Option Addr} {rc : Nat} {W W' : World} (h : RadW Bb b ra rc W) (hk : ∀ k, RadK Bb ra k → W'.heap[k]? = W.heap[k]?) : RadW Bb b ra rc W' :=
  ⟨(World.cell?_of_block (hk Bb (.inl rfl))).trans h.c0, (World.cell?_of_block (hk Bb (.inl rfl))).trans h.c1, (World.cell?_of_block (hk Bb (.inl rfl))).trans h.c2, fun i hi => by
    obtain ⟨k, o, e, h0, h1⟩ := h.rg i hi
    exact ⟨k, o, e, (World.cell?_of_block (hk k (.inr ⟨o, e⟩))).trans h0, (World.cell?_of_block (hk k (.inr ⟨o, e⟩))).trans h1⟩⟩
theorem RadW.ext {Bb : Nat} {b : Brd} {ra : Option Addr} {rc : Nat} {W W' : World} (h : RadW Bb b ra rc W) (hx : Ext W W') : RadW Bb b ra rc W' := ⟨hx.cell h.c0, hx.cell h.c1, hx.cell h.c2, h.rg.ext hx⟩
set_option maxRecDepth 100000 in
set_option maxHeartbeats 2000000 in
theorem radii1_in (F : Fence) (n : Nat) (hF : F.fn 89) (hro : F.round = none) (hn : 1 ≤ n) (l Bb : Nat) (b : Brd) (ra : Option Addr) (rc : Nat) (Kp : World → World → Prop) (hK : ∀ {A B : World}, Kp A B → ∀ k, RadK Bb ra k → B.heap[k]? = A.heap[k]?) (J Jx : List Int → World → Prop)
    (W : World) (hJ : AbidesFrom W.heap.size J)
    (hY : ∀ pre x W1, J pre W1 → pre.length < b.radii.length → x ∈ b.radii → YieldAt F (n - 1) Tryz.prog l #[.int .i64 x] W1 fun e W' =>
      (e = .returned (.bool true) ∧ J (pre ++ [x]) W' ∧ Kp W1 W') ∨ (e = .returned (.bool false) ∧ Jx (pre ++ [x]) W'))
    (hW : RadW Bb b ra rc W) (hlen : b.rings.length ≤ 1000000) (h0 : J [] W) :
    CallsIn F n Tryz.prog 89 #[.func (.yield l) #[] #[], .pointer (some ⟨Bb, 0, none⟩)] W fun e W' => (∃ v, e = .returned v) ∧
      ((∃ ys, ys = b.radii ∧ J ys W') ∨ (∃ pre, pre <+: b.radii ∧ Jx pre W')) := by
  refine callsIn_of_wp Tryz.func89 rfl hF ?_ hro
  simp only [Tryz.ntmps89, List.size_toArray, List.length_cons, List.length_nil, Nat.reduceAdd, Nat.reduceSub, Array.replicate_succ, Array.replicate_zero, List.push_toArray, List.append_toArray, List.nil_append, List.cons_append]
  obtain ⟨f1, t1, a1, b1, hy1, hR1⟩ := hY [] b.eye W h0 (by simp [Brd.radii]) (by simp [Brd.radii])
  have c0 := hW.c0
  gi_wp2
  refine hR1.mono ?_
  rintro e W1 (⟨rfl, hJ1, hk1⟩ | ⟨rfl, hx1⟩)
  · have hW1 := hW.kept (hK hk1)
    have d1 := hW1.c1
    obtain ⟨f2, t2, a2, b2, hy2, hR2⟩ := hY [b.eye] b.bull W1 hJ1 (by simp [Brd.radii]) (by simp [Brd.radii])
    gi_wp2
    refine hR2.mono ?_
    rintro e W2 (⟨rfl, hJ2, hk2⟩ | ⟨rfl, hx2⟩)
    · have hW2 := hW1.kept (hK hk2)
      have e2 := hW2.c2
      gi_wp2
      gi_loopw [20] (fun i wr => ∃ k : Nat, k ≤ b.rings.length ∧ i = .int .i64 k ∧ J (b.eye :: b.bull :: (b.rings.take k).map (·.outer)) wr ∧ RadW Bb b ra rc wr) (fun i _ => b.rings.length - (intOf i).toNat)
      case atStart => exact ⟨0, Nat.zero_le _, rfl, hJ2, hW2⟩
      case round =>
        obtain ⟨k, hk, rfl, hJs, hnx⟩ := hrel
        by_cases hlt : k < b.rings.length
        · obtain ⟨kb, ko, rfl, r0', r1'⟩ := hnx.rg k hlt
          have hJ3 := hJ _ wr (wr.alloc (.cells #[.int .i64 b.rings[k].outer, .int .i64 b.rings[k].factor] 58)) none hJs (World.grownBy_alloc wr _ none) (fun r e => by cases e)
          have hn3 := hnx.ext ((Ext.refl wr).alloc (.cells #[.int .i64 b.rings[k].outer, .int .i64 b.rings[k].factor] 58))
          obtain ⟨f3, t3, a3, b3, hy3, hR3⟩ := hY _ b.rings[k].outer _ hJ3 (by simp [Brd.radii]; omega) (by simp only [Brd.radii, List.mem_cons]; exact .inr (.inr (List.mem_map.2 ⟨b.rings[k], List.getElem_mem hlt, rfl⟩)))
          gi_wp2
          refine hR3.mono ?_
          rintro e W3 (⟨rfl, hJ3, hk3⟩ | ⟨rfl, hx3⟩)
          · have e3 : (b.eye :: b.bull :: (b.rings.take k).map (·.outer)) ++ [b.rings[k].outer] = b.eye :: b.bull :: (b.rings.take (k + 1)).map (·.outer) := by
              rw [List.take_succ_eq_append_getElem hlt, List.map_append]; rfl
            rw [e3] at hJ3
            gi_wp2
            go_roundw
            case rel => exact ⟨k + 1, by omega, by simp, hJ3, hn3.kept (hK hk3)⟩
            case measure => simp [intOf]; omega
          · have e3 : (b.eye :: b.bull :: (b.rings.take k).map (·.outer)) ++ [b.rings[k].outer] <+: b.radii := by
              rw [show (b.eye :: b.bull :: (b.rings.take k).map (·.outer)) ++ [b.rings[k].outer] = b.eye :: b.bull :: (b.rings.take (k + 1)).map (·.outer) by rw [List.take_succ_eq_append_getElem hlt, List.map_append]; rfl]
              refine ⟨(b.rings.drop (k + 1)).map (·.outer), ?_⟩
              simp only [List.cons_append]
              rw [← List.map_append, List.take_append_drop]
              rfl
            gi_wp2
            refine bodyPost_ret (results_none rfl _ _ _) (by rfl) ?_
            exact ⟨⟨_, rfl⟩, .inr ⟨_, e3, hx3⟩⟩
        · obtain rfl : k = b.rings.length := by omega
          gi_wp2
          go_end0
          exact ⟨⟨_, rfl⟩, .inl ⟨_, rfl, by rw [List.take_of_length_le (Nat.le_refl _)] at hJs; exact hJs⟩⟩
    · gi_wp2
      refine bodyPost_ret (results_none rfl _ _ _) (by rfl) ?_
      exact ⟨⟨_, rfl⟩, .inr ⟨_, ⟨b.rings.map (·.outer), rfl⟩, hx2⟩⟩
  · gi_wp2
    refine ⟨fun _ h => (by cases h), ?_⟩
    gi_wp2
    refine bodyPost_ret (results_none rfl _ _ _) (by rfl) ?_
    exact ⟨⟨_, rfl⟩, .inr ⟨_, ⟨b.bull :: b.rings.map (·.outer), rfl⟩, hx1⟩⟩
/-- The radii of a board. -/
theorem radii_stops (F : Fence) (n : Nat) (hF : F.fn 89) (hro : F.round = none) (hn : 1 ≤ n) (Bb : Nat) (b : Brd) (ra : Option Addr) (rc : Nat) (Kp : World → World → Prop) (hK : ∀ {A B : World}, Kp A B → ∀ k, RadK Bb ra k → B.heap[k]? = A.heap[k]?) (w : World)
    (hW : RadW Bb b ra rc w) (hlen : b.rings.length ≤ 1000000) :
    SeqStopsK F n Tryz.prog 89 #[.pointer (some ⟨Bb, 0, none⟩)] (fun x : Int => #[Value.int .i64 x]) Kp (fun ys => ys = b.radii) (fun pre => pre <+: b.radii) b.radii.length w := fun l J Jx W hB hJ _ hY h0 =>
  radii1_in F n hF hro hn l Bb b ra rc Kp (fun h => hK h) J Jx W hJ (fun pre x W1 h1 h2 _ => hY pre x W1 h1 h2) (hW.ext hB) hlen h0
theorem radii_stopsS (F : Fence) (n : Nat) (hF : F.fn 89) (hro : F.round = none) (hn : 1 ≤ n) (Bb : Nat) (b : Brd) (ra : Option Addr) (rc : Nat) (Kp : World → World → Prop) (hK : ∀ {A B : World}, Kp A B → ∀ k, RadK Bb ra k → B.heap[k]? = A.heap[k]?) (w : World)
    (hW : RadW Bb b ra rc w) (hlen : b.rings.length ≤ 1000000) (p : Int → Prop) (hp : ∀ x ∈ b.radii, p x) :
    SeqStopsK F n Tryz.prog 89 #[.pointer (some ⟨Bb, 0, none⟩)] (fun x : { x : Int // p x } => #[Value.int .i64 x.1]) Kp (fun ys => ys.map (·.1) = b.radii) (fun pre => pre.map (·.1) <+: b.radii) b.radii.length w := fun l J Jx W hB hJ _ hY h0 => by
  refine (radii1_in F n hF hro hn l Bb b ra rc Kp (fun h => hK h) (fun pre W => ∃ ys : List { x : Int // p x }, ys.map (·.1) = pre ∧ J ys W) (fun pre W => ∃ ys : List { x : Int // p x }, ys.map (·.1) = pre ∧ Jx ys W) W
    (fun s A B row hs hg hr => let ⟨ys, e, h⟩ := hs; ⟨ys, e, hJ ys A B row h hg hr⟩) (fun pre x W1 h1 h2 h3 => ?_) (hW.ext hB) hlen ⟨[], rfl, h0⟩).mono ?_
  · obtain ⟨ys, rfl, h⟩ := h1
    refine (hY ys ⟨x, hp x h3⟩ W1 h (by simpa using h2)).mono ?_
    rintro e W' (⟨rfl, hJ', hk⟩ | ⟨rfl, hx'⟩)
    · exact .inl ⟨rfl, ⟨_, by simp, hJ'⟩, hk⟩
    · exact .inr ⟨rfl, ⟨_, by simp, hx'⟩⟩
  · rintro e W' ⟨hv, ⟨ys, rfl, zs, e, hj⟩ | ⟨pre, hpre, zs, rfl, hj⟩⟩
    · exact ⟨hv, .inl ⟨zs, e, hj⟩⟩
    · exact ⟨hv, .inr ⟨zs, hpre, hj⟩⟩
theorem board_radii (F : Fence) (n : Nat) (hF : F.fn 73) (hro : F.round = none) (v : BrdV) (b : Brd) (w : World) :
    CallsIn F n Tryz.prog 73 #[.agg (v.cells b)] w fun e w' => e = .returned (.func (.func 89) #[] #[.pointer (some ⟨w.heap.size, 0, none⟩)]) ∧ w' = w.alloc (.cells (v.cells b) 26) := by
  unfold BrdV.cells
  refine callsIn_of_wp Tryz.func73 rfl hF ?_ hro
  simp only [Tryz.ntmps73, List.size_toArray, List.length_cons, List.length_nil, Nat.reduceAdd, Nat.reduceSub, Array.replicate_succ, Array.replicate_zero, List.push_toArray, List.append_toArray, List.nil_append, List.cons_append]
  gi_wp2
  go_ret
  exact ⟨rfl, rfl⟩
end Go.Proofs.YtlkbbcfbnbnagaaGreat
