/-
  Chapter 3: the next visit of a tale. No walk here.
-/
import Derived.Test.YtocnglplhnhllaaTak
namespace Go.Proofs.Ytocnglplhnhllaa
theorem tal_next {r : Rul} {l : List LV} {g : Gm} {E A : List Int} (hr : r.ok = true) (h : TalI r l g E A) (ho : g.over = false) {p : Nat} (hp : (p : Int) = (r.first + (l.length : Int)) % (r.counts.length : Int)) {bs : List Int} {y : Thr}
    (hx : g.thr r p bs = (y, -1, 0)) (hb : (1 ≤ bs.length ∧ bs.length ≤ 3) ∧ ∀ b ∈ bs, validB b = true) (hy : y.darts = (bs.length : Int)) :
    ∃ g' : Gm, TalJ r (l ++ [⟨p, bs⟩]) g' (wonA y.won E p) (wonA y.won A y.darts) ∧ g'.left = g.left.set p y.left ∧ g'.darts = g.darts.set p (g.darts.getD p 0 + bs.length) ∧ g'.inn = g.inn.set p y.inn ∧ g'.round = rndN g.round l.length r.counts.length
      ∧ g'.over = ovrN r.equal (wonA y.won E p).length l.length r.counts.length (rndN g.round l.length r.counts.length) r.rounds := by
  have hl := Rul.ok_length hr
  obtain ⟨h1, h2⟩ := h.step hr ho hp hx hb
  obtain ⟨f1, f2, f3, f4, f5, f6⟩ := tal_fin r (g.put r p y)
  have hms := mod_succ l.length r.counts.length hl.1
  have hml := Nat.mod_lt l.length (by omega : r.counts.length > 0)
  have hrn : ((g.put r p y).fin r).round = rndN g.round l.length r.counts.length := by
    rw [f4]
    simp only [Gm.put, rndN, h.done]
    by_cases hm : l.length % r.counts.length = r.counts.length - 1
    · rw [if_pos hm, if_pos (by omega)]
    · rw [if_neg hm, if_neg (by omega)]
  refine ⟨(g.put r p y).fin r, ⟨fun h0 => absurd h0 (by omega), fun _ => h1, h1.ok.left, h1.ok.darts, h1.ok.inn⟩, f1, ?_, f3, hrn, ?_⟩
  · rw [f2]
    simp only [Gm.put, hy]
  · rw [h2]
    show talO r (wonA y.won E p).length l.length = _
    unfold talO ovrN
    by_cases hm : l.length % r.counts.length = r.counts.length - 1
    · have : rndN g.round l.length r.counts.length = (((l.length + 1) / r.counts.length : Nat) : Int) := by
        unfold rndN
        rw [if_pos hm, h.round, (hms.1 hm).2]
        rfl
      rw [this]
    · have hm' : (l.length % r.counts.length == r.counts.length - 1) = false := by simpa using hm
      rw [hm']
      simp
end Go.Proofs.Ytocnglplhnhllaa
