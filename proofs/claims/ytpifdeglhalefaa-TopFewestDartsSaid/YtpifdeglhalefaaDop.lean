/-
  Package leg: a leg in memory, part by part: stores into it. No walk here.
-/
import Derived.Test.YtpifdeglhalefaaGmp
import Derived.Test.YtpifdeglhalefaaNew
namespace Go.Proofs.Ytpifdeglhalefaa
open Go.RowKit
theorem heap_set_same {w : World} {b j : Nat} {v : Value} {cs : Array Value} {t : TypeId} (h : w.heap[b]? = some (.cells cs t (0, 0))) : (w.setCell ⟨b, j, none⟩ v).heap[b]? = some (.cells (cs.setIfInBounds j v) t (0, 0)) := by
  obtain ⟨hlt, he⟩ := Array.getElem?_eq_some_iff.1 h
  simp only [World.setCell]
  rw [Array.getElem?_eq_getElem (by rw [Array.size_modify]; exact hlt), Array.getElem_modify_self, he]
  rfl
theorem own_set {w : World} {base g n cap i : Nat} {e : TypeId} {xs : List Value} (h : w.ownsRow base e 1 (.slice (some ⟨g, 0, none⟩) n cap) n xs) (u : Value) : (w.setCell ⟨g, i, none⟩ u).ownsRow base e 1 (.slice (some ⟨g, 0, none⟩) n cap) n (xs.set i u) := by
  obtain ⟨h1, ⟨e1, _⟩ | ⟨g', cap', cur, e1, h2, h3, h4, h5, h6, h7⟩⟩ := h
  · cases e1
  cases e1
  refine ⟨by simpa using h1, .inr ⟨g, cap, _, rfl, h2, heap_set_same h3, h4, h5, by simpa using h6, ?_⟩⟩
  rw [Array.toList_setIfInBounds, List.take_set, h7]
theorem OwnI.set {w : World} {base g cap i : Nat} {xs : List Int} {n : Nat} (h : OwnI w base (.slice (some ⟨g, 0, none⟩) n cap) xs) (hn : n = xs.length) (v : Int) : OwnI (w.setCell ⟨g, i, none⟩ (.int .i64 v)) base (.slice (some ⟨g, 0, none⟩) n cap) (xs.set i v) := by
  subst hn
  have := own_set (i := i) h (.int .i64 v)
  unfold OwnI
  rw [List.length_set, List.map_set]
  exact this
theorem OwnB.set {w : World} {base g cap i : Nat} {xs : List Bool} {n : Nat} (h : OwnB w base (.slice (some ⟨g, 0, none⟩) n cap) xs) (hn : n = xs.length) (v : Bool) : OwnB (w.setCell ⟨g, i, none⟩ (.bool v)) base (.slice (some ⟨g, 0, none⟩) n cap) (xs.set i v) := by
  subst hn
  have := own_set (i := i) h (.bool v)
  unfold OwnB
  rw [List.length_set, List.map_set]
  exact this
theorem own_some {w : World} {base s n : Nat} {e : TypeId} {v : Value} {xs : List Value} (h : w.ownsRow base e s v n xs) (hn : 0 < n) : ∃ g cap, v = .slice (some ⟨g, 0, none⟩) n cap ∧ base ≤ g ∧ g < w.heap.size := by
  have hl := own_lt h
  obtain ⟨h1, ⟨e1, h2⟩ | ⟨g, cap, cur, e1, h2, h3, _⟩⟩ := h
  · omega
  · subst e1; exact ⟨g, cap, rfl, h2, (hl g rfl).2⟩
theorem own_cell {w : World} {base g n cap : Nat} {e : TypeId} {xs : List Value} (h : w.ownsRow base e 1 (.slice (some ⟨g, 0, none⟩) n cap) n xs) {i : Nat} {u : Value} (hi : xs[i]? = some u) : w.cell? ⟨g, i, none⟩ = some u ∧ w.frozen? ⟨g, i, none⟩ = false := by
  have hc := World.ownsRow.cells (w := w) (g := g) h rfl i u hi
  have hadd : (⟨g, 0, none⟩ : Addr).add i = ⟨g, i, none⟩ := by unfold Addr.add; split <;> simp_all
  rw [hadd] at hc
  obtain ⟨h1, ⟨e1, _⟩ | ⟨g', cap', cur, e1, h2, h3, _⟩⟩ := h
  · cases e1
  cases e1
  exact ⟨hc, by simp [World.frozen?, h3]⟩
section
variable {w w' : World} {h0 b : Nat} {cv : Value} {r : Rul} {g : Gm} {n : Nat} {lv dv iv wv : Value} {em : Nat} {D : DI}
/-- What lies nowhere in a leg may turn. -/
theorem OnG.chg (h : OnG w h0 b cv r g n lv dv iv wv em D) {S : Nat → Prop} (hx : Chg S w w') (hb : ¬ S b) (hl : ∀ k, lv.ownBlock = some k → ¬ S k) (hd : ∀ k, dv.ownBlock = some k → ¬ S k) (hi : ∀ k, iv.ownBlock = some k → ¬ S k) (hw : ∀ k, wv.ownBlock = some k → ¬ S k) (he : ¬ S em) : OnG w' h0 b cv r g n lv dv iv wv em D :=
  ⟨h.blk.chg hx hb, h.lo, h.left.chg hx hl, h.darts.chg hx hd, h.inn.chg hx hi, h.winners.chg hx hw, h.parts, h.own.chg hx he, h.elo, h.reads, h.fresh⟩
theorem OnG.map_ne (h : OnG w h0 b cv r g n lv dv iv wv em D) : em ≠ b := by
  obtain ⟨t, ht⟩ := h.blk
  exact h.own.ne ht
theorem own_map_ne {w : World} {em n : Nat} {D : DI} (h : MapAt w em n D) {base s m : Nat} {e : TypeId} {v : Value} {xs : List Value} (ho : w.ownsRow base e s v m xs) : v.ownBlock ≠ some em := by
  intro hv
  obtain ⟨_, ⟨rfl, _⟩ | ⟨g, cap, cur, rfl, _, h3, _⟩⟩ := ho
  · cases hv
  cases hv
  exact h.ne h3 rfl
theorem OnG.left_set {lb m c i : Nat} (h : OnG w h0 b cv r g n (.slice (some ⟨lb, 0, none⟩) m c) dv iv wv em D) (ho : g.over = false) (hm : m = g.left.length) (v : Int) :
    OnG (w.setCell ⟨lb, i, none⟩ (.int .i64 v)) h0 b cv r { g with left := g.left.set i v } n (.slice (some ⟨lb, 0, none⟩) m c) dv iv wv em D := by
  have hx := Chg.setCell (S := (· = lb)) (Chg.refl _ w) (p := ⟨lb, i, none⟩) (.inr rfl) (.int .i64 v)
  have hlt := (own_lt h.left lb rfl).1
  refine ⟨h.blk.chg hx (by omega), h.lo, h.left.set hm v, h.darts.chg hx (fun k hk e => h.parts k (by rw [e]; rfl) hk), h.inn.chg hx (fun k hk e => own_ne h.inn h.left (by decide) k hk (by rw [e]; rfl)), h.winners.chg hx (fun k hk e => ?_), h.parts, h.own.chg hx (fun e => own_map_ne h.own h.left (by rw [e]; rfl)), h.elo, h.reads, h.fresh⟩
  rw [h.fresh ho] at hk; cases hk
theorem OnG.darts_set {lb m c i : Nat} (h : OnG w h0 b cv r g n lv (.slice (some ⟨lb, 0, none⟩) m c) iv wv em D) (ho : g.over = false) (hm : m = g.darts.length) (v : Int) :
    OnG (w.setCell ⟨lb, i, none⟩ (.int .i64 v)) h0 b cv r { g with darts := g.darts.set i v } n lv (.slice (some ⟨lb, 0, none⟩) m c) iv wv em D := by
  have hx := Chg.setCell (S := (· = lb)) (Chg.refl _ w) (p := ⟨lb, i, none⟩) (.inr rfl) (.int .i64 v)
  have hlt := (own_lt h.darts lb rfl).1
  refine ⟨h.blk.chg hx (by omega), h.lo, h.left.chg hx (fun k hk e => h.parts k hk (by rw [e]; rfl)), h.darts.set hm v, h.inn.chg hx (fun k hk e => own_ne h.inn h.darts (by decide) k hk (by rw [e]; rfl)), h.winners.chg hx (fun k hk e => ?_), h.parts, h.own.chg hx (fun e => own_map_ne h.own h.darts (by rw [e]; rfl)), h.elo, h.reads, h.fresh⟩
  rw [h.fresh ho] at hk; cases hk
theorem OnG.inn_set {lb m c i : Nat} (h : OnG w h0 b cv r g n lv dv (.slice (some ⟨lb, 0, none⟩) m c) wv em D) (ho : g.over = false) (hm : m = g.inn.length) (v : Bool) :
    OnG (w.setCell ⟨lb, i, none⟩ (.bool v)) h0 b cv r { g with inn := g.inn.set i v } n lv dv (.slice (some ⟨lb, 0, none⟩) m c) wv em D := by
  have hx := Chg.setCell (S := (· = lb)) (Chg.refl _ w) (p := ⟨lb, i, none⟩) (.inr rfl) (.bool v)
  have hlt := (own_lt h.inn lb rfl).1
  refine ⟨h.blk.chg hx (by omega), h.lo, h.left.chg hx (fun k hk e => own_ne h.left h.inn (by decide) k hk (by rw [e]; rfl)), h.darts.chg hx (fun k hk e => own_ne h.darts h.inn (by decide) k hk (by rw [e]; rfl)), h.inn.set hm v, h.winners.chg hx (fun k hk e => ?_), h.parts, h.own.chg hx (fun e => own_map_ne h.own h.inn (by rw [e]; rfl)), h.elo, h.reads, h.fresh⟩
  rw [h.fresh ho] at hk; cases hk
theorem OnG.blk_set (h : OnG w h0 b cv r g n lv dv iv wv em D) (j : Nat) (v : Value) (g' : Gm) (hg : (gmC cv r lv dv iv g.next g.round g.over wv em g.done).setIfInBounds j v = gmC cv r lv dv iv g'.next g'.round g'.over wv em g'.done)
    (e1 : g'.left = g.left) (e2 : g'.darts = g.darts) (e3 : g'.inn = g.inn) (e4 : g'.winners = g.winners) (e5 : g'.ended = g.ended) (e6 : g'.over = g.over) : OnG (w.setCell ⟨b, j, none⟩ v) h0 b cv r g' n lv dv iv wv em D := by
  have hx := Chg.setCell (S := (· = b)) (Chg.refl _ w) (p := ⟨b, j, none⟩) (.inr rfl) v
  refine ⟨hg ▸ h.blk.set j v, h.lo, ?_, ?_, ?_, ?_, h.parts, h.own.chg hx h.map_ne, h.elo, by rw [e5]; exact h.reads, by rw [e6]; exact h.fresh⟩
  · rw [e1]; exact h.left.chg hx (fun k hk e => by have := (own_lt h.left k hk).1; omega)
  · rw [e2]; exact h.darts.chg hx (fun k hk e => by have := (own_lt h.darts k hk).1; omega)
  · rw [e3]; exact h.inn.chg hx (fun k hk e => by have := (own_lt h.inn k hk).1; omega)
  · rw [e4]; exact h.winners.chg hx (fun k hk e => by have := (own_lt h.winners k hk).1; omega)
theorem OnG.next_set (h : OnG w h0 b cv r g n lv dv iv wv em D) (v : Int) : OnG (w.setCell ⟨b, 7, none⟩ (.int .i64 v)) h0 b cv r { g with next := v } n lv dv iv wv em D := h.blk_set 7 _ _ rfl rfl rfl rfl rfl rfl rfl
theorem OnG.round_set (h : OnG w h0 b cv r g n lv dv iv wv em D) (v : Int) : OnG (w.setCell ⟨b, 8, none⟩ (.int .i64 v)) h0 b cv r { g with round := v } n lv dv iv wv em D := h.blk_set 8 _ _ rfl rfl rfl rfl rfl rfl rfl
theorem OnG.done_set (h : OnG w h0 b cv r g n lv dv iv wv em D) (v : Int) : OnG (w.setCell ⟨b, 12, none⟩ (.int .i64 v)) h0 b cv r { g with done := v } n lv dv iv wv em D := h.blk_set 12 _ _ rfl rfl rfl rfl rfl rfl rfl
theorem OnG.mono (h : OnG w h0 b cv r g n lv dv iv wv em D) {m : Nat} (hm : n ≤ m) : OnG w h0 b cv r g m lv dv iv wv em D := ⟨h.blk, h.lo, h.left, h.darts, h.inn, h.winners, h.parts, World.ownsMap.mono h.own hm, h.elo, h.reads, h.fresh⟩
theorem OnG.mapped (h : OnG w h0 b cv r g n lv dv iv wv em D) {D' : DI} {f : Int → Option Int} {m : Nat} (hx : Chg (· = em) w w') (hm : MapAt w' em m D') (hr : Reads D' f) : OnG w' h0 b cv r { g with ended := f } m lv dv iv wv em D' :=
  ⟨h.blk.chg hx (Ne.symm h.map_ne), h.lo, h.left.chg hx (fun _ hk e => own_map_ne h.own h.left (e ▸ hk)), h.darts.chg hx (fun _ hk e => own_map_ne h.own h.darts (e ▸ hk)), h.inn.chg hx (fun _ hk e => own_map_ne h.own h.inn (e ▸ hk)), h.winners.chg hx (fun _ hk e => own_map_ne h.own h.winners (e ▸ hk)), h.parts, hm, h.elo, hr, h.fresh⟩
end
end Go.Proofs.Ytpifdeglhalefaa
