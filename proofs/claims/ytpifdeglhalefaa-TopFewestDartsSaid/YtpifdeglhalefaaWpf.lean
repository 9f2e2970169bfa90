/-
  A leg that was played, and visits of one's own, wherever they lie.
-/
import Derived.Test.YtpifdeglhalefaaWpd
import Derived.Test.YtpifdeglhalefaaPla
namespace Go.Proofs.Ytpifdeglhalefaa
open Go.RowKit Go.BigFrame
theorem StAt.chgW {w w' : World} {base : Nat} {v : Value} {g : Gm} (h : StAt w base v g) {S : Nat → Prop} (hx : Chg S w w') (hS : ∀ k, S k → k < base) : StAt w' base v g := by
  obtain ⟨lv, dv, iv, wv, rfl, h1, h2, h3, h4⟩ := h
  have k0 {e : TypeId} {z n : Nat} {u : Value} {xs : List Value} (h : w.ownsRow base e z u n xs) : w'.ownsRow base e z u n xs := own_chg h hx (fun k hk hs => by have := hS k hs; have := (World.ownsRow.lt h k hk).1; omega)
  exact ⟨lv, dv, iv, wv, rfl, k0 h1, k0 h2, k0 h3, k0 h4⟩
theorem VisF.chgW {w w' : World} {base : Nat} {v : Value} {l : List LV} (h : VisF w base v l) {S : Nat → Prop} (hx : Chg S w w') (hS : ∀ k, S k → k < base) : VisF w' base v l := by
  obtain ⟨us, h1, h2, h3⟩ := h
  have k0 {e : TypeId} {z n : Nat} {u : Value} {xs : List Value} (h : w.ownsRow base e z u n xs) : w'.ownsRow base e z u n xs := own_chg h hx (fun k hk hs => by have := hS k hs; have := (World.ownsRow.lt h k hk).1; omega)
  exact ⟨us, h1, k0 h2, fun i hi => let ⟨a, c, h4, h5⟩ := h3 i hi; ⟨a, c, h4, k0 h5⟩⟩
def PlyV (S : Gm × Int × Int) (v : Value) (s : Nat) (w : World) : Prop := ∃ v1, v = .tuple #[v1, .int .i64 S.2.1, .int .i64 S.2.2] ∧ StAt w s v1 S.1
theorem PlyV.chg {S' : Gm × Int × Int} {v : Value} {s : Nat} {w w' : World} (h : PlyV S' v s w) {S : Nat → Prop} (hx : Chg S w w') (hS : ∀ k, S k → k < s) : PlyV S' v s w' := by
  obtain ⟨v1, e, h1⟩ := h
  exact ⟨v1, e, h1.chgW hx hS⟩
def PlyS (S : Gm × Int × Int) (v : Value) : Prop := ∃ a0 a1 a2 a3 c0 c1 c2 c3, v = .tuple #[.agg #[.slice a0 S.1.left.length c0, .slice a1 S.1.darts.length c1, .slice a2 S.1.inn.length c2, .int .i64 S.1.next, .int .i64 S.1.round, .bool S.1.over, .slice a3 S.1.winners.length c3], .int .i64 S.2.1, .int .i64 S.2.2]
theorem PlyV.shape {S : Gm × Int × Int} {v : Value} {s : Nat} {w : World} (h : PlyV S v s w) : PlyS S v := by
  obtain ⟨v1, rfl, lv, dv, iv, wv, rfl, h1, h2, h3, h4⟩ := h
  obtain ⟨a0, c0, rfl⟩ := own_shape h1
  obtain ⟨a1, c1, rfl⟩ := own_shape h2
  obtain ⟨a2, c2, rfl⟩ := own_shape h3
  obtain ⟨a3, c3, rfl⟩ := own_shape h4
  exact ⟨_, _, _, _, _, _, _, _, rfl⟩
def plyW (S : Gm × Int × Int) : Value := .tuple #[.agg #[.slice none S.1.left.length 0, .slice none S.1.darts.length 0, .slice none S.1.inn.length 0, .int .i64 S.1.next, .int .i64 S.1.round, .bool S.1.over, .slice none S.1.winners.length 0], .int .i64 S.2.1, .int .i64 S.2.2]
theorem plyW_shape (S : Gm × Int × Int) : PlyS S (plyW S) := ⟨_, _, _, _, _, _, _, _, rfl⟩
theorem PlyV.reads {S : Gm × Int × Int} {a0 a1 a2 a3 : Option Addr} {n0 n1 n2 n3 c0 c1 c2 c3 s : Nat} {nx rd i' er' : Int} {ov : Bool} {w : World} (h : PlyV S (.tuple #[.agg #[.slice a0 n0 c0, .slice a1 n1 c1, .slice a2 n2 c2, .int .i64 nx, .int .i64 rd, .bool ov, .slice a3 n3 c3], .int .i64 i', .int .i64 er']) s w) :
    CellsAt w .i64 a0 S.1.left ∧ CellsAt w .i64 a1 S.1.darts := by
  obtain ⟨v1, e, lv, dv, iv, wv, e2, h1, h2, h3, h4⟩ := h
  simp only [Value.tuple.injEq, Array.mk.injEq, List.cons.injEq] at e
  obtain ⟨rfl, -, -⟩ := e
  simp only [Value.agg.injEq, Array.mk.injEq, List.cons.injEq] at e2
  obtain ⟨rfl, rfl, -, -, -, -, rfl, -⟩ := e2
  obtain ⟨b0, d0, e0, k0⟩ := OwnI.cells h1
  obtain ⟨b1, d1, e1, k1⟩ := OwnI.cells h2
  cases e0
  cases e1
  exact ⟨k0, k1⟩
theorem visW_fits {q : List Int} (h : ∀ x ∈ q, I64 x) : ∀ v ∈ visW q, v.fits := by
  intro v hv
  unfold visW at hv
  obtain ⟨i, -, rfl⟩ := List.mem_map.1 hv
  refine ⟨show I64 0 by unfold I64; decide, fun x hx => h x (List.mem_of_mem_drop (List.mem_of_mem_take hx)), ?_⟩
  have := List.length_take_le 3 (q.drop (3 * i))
  show ((q.drop (3 * i)).take 3).length ≤ _
  omega
theorem play_one (s g : Int) (kc : Nat) (q : List Int) (va : Option Addr) (nv vc base : Nat) (w : World) (hC : Blk w kc #[.int .i64 s, .int .i64 0, .int .i64 g]) (hn : (visW q).length = nv) (hV : VisF w base (.slice va nv vc) (visW q)) (hf : ∀ x ∈ q, I64 x) (hq : q.length ≤ 100) (S : Gm × Int × Int) (hS : playS (oneR s g) (visW q) = S) :
    Calls Try.prog 16 #[.agg #[.slice (some ⟨kc, 0, none⟩) 1 1, .int .i64 0, .int .i64 0, .bool false], .slice va nv vc] w fun e w' => ∃ v, e = .returned v ∧ PlyV S v w.heap.size w' ∧ Ext w w' := by
  subst hn
  have hc : CntsAt w (some ⟨kc, 0, none⟩) (oneR s g).counts := fun i hi => by
    have : i = 0 := by have h1 : (oneR s g).counts.length = 1 := rfl; omega
    subst this
    exact ⟨kc, 0, rfl, hC.cell 0 rfl, hC.cell 1 rfl, hC.cell 2 rfl⟩
  refine (leg_Play (oneR s g) (some ⟨kc, 0, none⟩) 1 (visW q) va vc w hc (show 1 ≤ _ by decide) hV.at_ (visW_fits hf) (by rw [visW_len]; omega) S hS).mono ?_
  rintro e w' ⟨v, rfl, hst, hx⟩
  exact ⟨_, rfl, ⟨v, rfl, hst⟩, hx⟩
end Go.Proofs.Ytpifdeglhalefaa
