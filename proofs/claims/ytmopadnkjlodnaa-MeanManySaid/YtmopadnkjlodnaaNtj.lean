/-
  The laws of chapter 6: sums over legs that were thrown, plain lemmas.
-/
import Derived.Test.YtmopadnkjlodnaaNte
import Derived.Test.YtmopadnkjlodnaaNtg
import Derived.Test.YtmopadnkjlodnaaKns
import Derived.Deep.CutBlock
import Derived.Deep.DeepCutAuto
namespace Go.Proofs.Ytmopadnkjlodnaa
open Go.RowKit Go.BigFrame
attribute [local go_sem] Later.cell Later.frozen Lat.cell Lat.frozen NoX
theorem OwnD.at0 {w : World} {base : Nat} {a : Option Addr} {c : Nat} {xs : List Int} (h : OwnD w base (.slice a xs.length c) xs) : CellsAt w .i64 a xs := by
  obtain ⟨a', c', e, h1, -⟩ := (h.rd (S := S0) (fun _ _ h => h)).cells
  cases e
  exact h1
theorem LgsO.legsA {w : World} {base : Nat} {a : Option Addr} {n c : Nat} {ls : List Leg} (h : LgsO w base (.slice a n c) ls) (hi : ∀ l ∈ ls, (∀ x ∈ l.beds, I64 x) ∧ (∀ x ∈ l.scores, I64 x) ∧ I64 l.start) : LgsA w a ls := by
  intro i hl
  obtain ⟨vals, h1, h2, h3⟩ := h
  obtain ⟨ba, sa, bc, sc, k1, k2, k3⟩ := h3 i hl
  have hc := fun g (hg : (Value.slice a n c).ownBlock = some g) => World.ownsRow.cells (w := w) (g := g) h1 hg
  obtain ⟨-, ⟨-, e2⟩ | ⟨g, cap, cur, e1, -⟩⟩ := h1
  · omega
  · cases e1
    have hm := hi _ (List.getElem_mem hl)
    refine ⟨g, 0, ba, sa, bc, sc, rfl, fun j u hu => ?_, BedA.own k2 hm.1, BedA.ownI k3 hm.2.1, hm.2.2⟩
    have := hc g rfl (6 * i + j) u (k1 j u hu)
    rw [addr_add, Nat.zero_add] at this
    rw [show 0 + i * 6 + j = 6 * i + j by omega]
    exact this
theorem Tld.ok.sco {bl : List Int} {d : Tld} (h : d.ok bl) : d.x.scores.length = d.vs.length ∧ ∀ y ∈ d.x.scores, I64 y := by
  have hv : 1 ≤ d.vs.length ∧ d.vs.length ≤ 100 := by have := h.len; omega
  obtain ⟨-, h1, -⟩ := vst_thrown h.law h.run hv
  refine ⟨h1, fun y hy => ?_⟩
  obtain ⟨k, hk, rfl⟩ := List.mem_iff_getElem.1 hy
  rw [h1] at hk
  obtain ⟨e, r, hS⟩ := step_k h.law h.run k hk
  have hs := hS.sk
  rw [List.getElem?_eq_getElem (by omega)] at hs
  injection hs with hs
  rw [hs]
  have ht := tlx_all h.law h.run hv.2 (k + 1) _ (by omega) hS.post
  have hst : 2 ≤ d.start ∧ d.start ≤ 1001 := by have := cntB_start (laws_cnt h.law).1; omega
  have h2 := hS.st.1
  have h3 := hS.st.2.1
  have h4 := leastS_pos d.gout
  rcases ht.st with h5 | h5
  · have := h5.2; exact ⟨by omega, by omega⟩
  · have := h5.2.1; have := h5.2.2.1; exact ⟨by omega, by omega⟩
theorem sum_vis {bl : List Int} : ∀ {ds : List Tld}, (∀ d ∈ ds, d.ok bl) → (ds.length : Int) ≤ sumD Tld.vis ds
  | [], _ => by simp [sumD]
  | d :: ds, h => by
    have ih := sum_vis (fun e he => h e (List.mem_cons_of_mem _ he))
    have h1 := (h d (by simp)).len
    rw [sumD_cons, List.length_cons]
    unfold Tld.vis at *
    push_cast
    omega
theorem sumD_le {f : Tld → Int} {m : Int} : ∀ {ds : List Tld}, (∀ d ∈ ds, 0 ≤ f d ∧ f d ≤ m) → 0 ≤ sumD f ds ∧ sumD f ds ≤ m * ds.length
  | [], _ => by simp [sumD]
  | d :: ds, h => by
    have ih := sumD_le (fun e he => h e (List.mem_cons_of_mem _ he))
    have h1 := h d (by simp)
    rw [sumD_cons, List.length_cons]
    push_cast
    rw [Int.mul_add, Int.mul_one]
    omega
theorem Tld.ok.tlx {bl : List Int} {d : Tld} (h : d.ok bl) : TlX d.start d.gout d.vs.length d.x := tlx_all h.law h.run (by have := h.len; omega) d.vs.length d.x (Nat.le_refl _) (by rw [List.take_length]; exact h.run)
theorem Tld.ok.bnd {bl : List Int} {d : Tld} (h : d.ok bl) : (0 ≤ d.drt ∧ d.drt ≤ 45) ∧ (0 ≤ d.tri ∧ d.tri ≤ 45) ∧ (0 ≤ d.won ∧ d.won ≤ 1) ∧ (0 ≤ d.pts ∧ d.pts ≤ 1001) := by
  have t := h.tlx
  have hl := h.len
  have hs : 2 ≤ d.start ∧ d.start ≤ 1001 := by have := cntB_start (laws_cnt h.law).1; omega
  have h1 := t.dar
  have h2 := t.tri
  have h3 := t.pts
  have h4 : 0 ≤ d.x.left ∧ d.x.left ≤ d.start := by
    rcases t.st with h1 | h1
    · have := h1.2; omega
    · have := h1.2.1; have := h1.2.2.1; have := leastS_pos d.gout; omega
  unfold Tld.drt Tld.tri Tld.won Tld.pts
  refine ⟨by omega, by omega, ?_, by omega⟩
  split <;> exact ⟨by decide, by decide⟩
theorem sums_bnd {bl : List Int} {ds : List Tld} (h : ∀ d ∈ ds, d.ok bl) (hl : ds.length ≤ 4) : (0 ≤ sumD Tld.drt ds ∧ sumD Tld.drt ds ≤ 180) ∧ (0 ≤ sumD Tld.tri ds ∧ sumD Tld.tri ds ≤ 180) ∧ (0 ≤ sumD Tld.won ds ∧ sumD Tld.won ds ≤ 4) ∧ (0 ≤ sumD Tld.pts ds ∧ sumD Tld.pts ds ≤ 4004) := by
  have h1 := sumD_le (f := Tld.drt) (m := 45) (fun d hd => (h d hd).bnd.1)
  have h2 := sumD_le (f := Tld.tri) (m := 45) (fun d hd => (h d hd).bnd.2.1)
  have h3 := sumD_le (f := Tld.won) (m := 1) (fun d hd => (h d hd).bnd.2.2.1)
  have h4 := sumD_le (f := Tld.pts) (m := 1001) (fun d hd => (h d hd).bnd.2.2.2)
  omega
theorem sumD_snoc (f : Tld → Int) (d : Tld) : ∀ ds : List Tld, sumD f (ds ++ [d]) = sumD f ds + f d
  | [] => by simp [sumD]
  | e :: ds => by rw [List.cons_append, sumD_cons, sumD_cons, sumD_snoc f d ds]; omega
end Go.Proofs.Ytmopadnkjlodnaa
