/-
  Package leg: a leg while it is played, as data; what it is in memory. No walk here.
-/
import Derived.Test.YtpifdeglhalefaaEnd
namespace Go.Proofs.Ytpifdeglhalefaa
open Go.RowKit
/-- A leg while it is played. -/
structure Gm where
  left : List Int
  darts : List Int
  inn : List Bool
  next : Int
  round : Int
  over : Bool
  winners : List Int
  ended : Int → Option Int
  done : Int
def Gm.begin (r : Rul) : Gm := ⟨r.counts.map (·.start), List.replicate r.counts.length 0, r.counts.map (fun c => c.gin == 0), r.first, 0, false, [], fun _ => none, 0⟩
/-- A map of one's own, written at most n times. -/
def MapAt (w : World) (b n : Nat) (D : DI) : Prop := w.ownsMap Try.prog 3 (plainElem Try.prog 3) b n D
theorem MapAt.chg {w w' : World} {S : Nat → Prop} {b n : Nat} {D : DI} (h : MapAt w b n D) (hx : Chg S w w') (hs : ¬ S b) : MapAt w' b n D := by
  obtain ⟨es, clock, hb, F, h1, h2⟩ := h
  exact ⟨es, clock, hx.heap hb hs, F, h1, h2⟩
theorem MapAt.ext {w w' : World} {b n : Nat} {D : DI} (h : MapAt w b n D) (hx : Ext w w') : MapAt w' b n D := h.chg (hx.chg fun _ => False) id
theorem MapAt.made (w : World) (n : Nat) (hn : n = w.heap.size) : MapAt (w.alloc (.map #[] 0)) n 0 (.map []) := hn ▸ World.ownsMap_made w _ _ _
theorem MapAt.lt {w : World} {b n : Nat} {D : DI} (h : MapAt w b n D) : b < w.heap.size := World.ownsMap.lt h
theorem MapAt.ne {w : World} {b n k : Nat} {D : DI} {cs : Array Value} {t : TypeId} {fz : Nat × Nat} (h : MapAt w b n D) (hk : w.heap[k]? = some (.cells cs t fz)) : b ≠ k := by
  rintro rfl
  obtain ⟨es, cl, he, _⟩ := h
  rw [hk] at he; cases he
/-- A leg in memory: all of it lies from h0 on; its map was written at most n times. -/
structure OnG (w : World) (h0 b : Nat) (cv : Value) (r : Rul) (g : Gm) (n : Nat) (lv dv iv wv : Value) (em : Nat) (D : DI) : Prop where
  blk : Blk w b (gmC cv r lv dv iv g.next g.round g.over wv em g.done)
  lo : h0 ≤ b
  left : OwnI w (b + 1) lv g.left
  darts : OwnI w (b + 1) dv g.darts
  inn : OwnB w (b + 1) iv g.inn
  winners : OwnI w (b + 1) wv g.winners
  parts : ∀ k, lv.ownBlock = some k → dv.ownBlock ≠ some k
  own : MapAt w em n D
  elo : h0 ≤ em
  reads : Reads D g.ended
  fresh : g.over = false → wv = .slice none 0 0
def OnGm (w : World) (h0 b : Nat) (cv : Value) (r : Rul) (g : Gm) (n : Nat) : Prop := ∃ lv dv iv wv em D, OnG w h0 b cv r g n lv dv iv wv em D
theorem OnG.ext {w w' : World} {h0 b : Nat} {cv : Value} {r : Rul} {g : Gm} {n : Nat} {lv dv iv wv : Value} {em : Nat} {D : DI} (h : OnG w h0 b cv r g n lv dv iv wv em D) (hx : Ext w w') : OnG w' h0 b cv r g n lv dv iv wv em D :=
  ⟨h.blk.ext hx, h.lo, h.left.ext hx, h.darts.ext hx, h.inn.ext hx, h.winners.ext hx, h.parts, h.own.ext hx, h.elo, h.reads, h.fresh⟩
theorem OnGm.ext {w w' : World} {h0 b : Nat} {cv : Value} {r : Rul} {g : Gm} {n : Nat} (h : OnGm w h0 b cv r g n) (hx : Ext w w') : OnGm w' h0 b cv r g n := let ⟨lv, dv, iv, wv, em, D, h⟩ := h; ⟨lv, dv, iv, wv, em, D, h.ext hx⟩
/-- The error with which a leg cannot begin. -/
def newE (r : Rul) (v : Int) : Int := if r.ok = false then 2 else if 2000 < v then 5 else 0
theorem Rul.err_eq (r : Rul) : r.err = if r.ok = true then 0 else 2 := rfl
theorem Rul.ok_length {r : Rul} (h : r.ok = true) : 1 ≤ r.counts.length ∧ r.counts.length ≤ 8 := by
  unfold Rul.ok at h
  simp only [Bool.and_eq_true, ins_one] at h
  omega
theorem Rul.ok_first {r : Rul} (h : r.ok = true) : 0 ≤ r.first ∧ r.first < r.counts.length := by
  unfold Rul.ok at h
  simp only [Bool.and_eq_true, ins_one] at h
  omega
theorem Rul.ok_rounds {r : Rul} (h : r.ok = true) : 0 ≤ r.rounds ∧ r.rounds ≤ 200 := by
  unfold Rul.ok at h
  simp only [Bool.and_eq_true, ins_one] at h
  omega
theorem Rul.ok_count {r : Rul} (h : r.ok = true) {c : Cnt} (hc : c ∈ r.counts) : c.ok = true := by
  unfold Rul.ok at h
  simp only [Bool.and_eq_true, Bool.not_eq_true', List.any_eq_false] at h
  have := h.1.1.2 c hc
  simpa using this
end Go.Proofs.Ytpifdeglhalefaa
