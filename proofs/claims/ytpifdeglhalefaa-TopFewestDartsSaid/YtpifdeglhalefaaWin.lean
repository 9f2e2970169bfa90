/-
  Package leg: win.
-/
import Derived.Test.YtpifdeglhalefaaGam
import Derived.Test.YtpifdeglhalefaaMaq
import Derived.Test.YtpifdeglhalefaaSrt
namespace Go.Proofs.Ytpifdeglhalefaa
open Go.RowKit
/-- The least number of a partial function, 1002 if there is none. -/
structure IsLeast (f : Int → Option Int) (m : Int) : Prop where
  le : m ≤ 1002
  low : ∀ x c, f x = some c → m ≤ c
  got : m = 1002 ∨ ∃ x, f x = some m
theorem IsLeast.unique {f : Int → Option Int} {m m' : Int} (h : IsLeast f m) (h' : IsLeast f m') : m = m' := by
  have h1 : m ≤ m' := by
    rcases h'.got with e | ⟨x, e⟩
    · rw [e]; exact h.le
    · exact h.low x _ e
  have h2 : m' ≤ m := by
    rcases h.got with e | ⟨x, e⟩
    · rw [e]; exact h'.le
    · exact h'.low x _ e
  omega
theorem game_win (cv : Value) (r : Rul) (lv dv iv : Value) (next round done : Int) (over : Bool) (em b mb n : Nat) (D : DI) (f : Int → Option Int) (w : World)
    (h : Blk w b (gmC cv r lv dv iv next round over (.slice none 0 0) em done)) (hm : w.ownsMap Try.prog 3 (plainElem Try.prog 3) mb n D) (hr : Reads D f) (hf : ∀ x c, f x = some c → I64 c) (hd : ∀ x c, f x = some c → I64 x) (hn : n ≤ 1000000) :
    Calls Try.prog 96 #[.pointer (some ⟨b, 0, none⟩), .map (some mb)] w fun e w' => e = .returned (.tuple #[]) ∧ ∃ wv W m, Blk w' b (gmC cv r lv dv iv (-1) round true wv em done) ∧ OwnI w' w.heap.size wv W ∧ W.Pairwise (· < ·) ∧ IsLeast f m ∧ (∀ x, x ∈ W ↔ f x = some m) ∧ Chg (· = b) w w' := by
  have hsD : Maps.size D ≤ n := by
    obtain ⟨es, cl, _, _, h1, rfl⟩ := hm
    simpa [Maps.size, length_sorted] using h1
  have H := Lib.hid h
  have HM := Lib.hid hm
  have HR := Lib.hid hr
  have HF := Lib.hid hf
  have HD := Lib.hid hd
  clear h hm hr hf hd
  go_enter Try.func96, Try.ntmps96
  go_wp2_with (at_range; refine wpList_range_own _ rfl _ 115 rfl 3 3 keyed_i under_map _ mb n D rfl HM.out ?_; intro w0 hrg0 hg0 hs0)
  have HG := Lib.hid hrg0
  have hE0 : Ext w w0 := Chg.to_ext (Ext.refl w) (grown_chg hg0) (by intro i hi; cases hi)
  clear hrg0 hg0 hs0
  go_frame
  go_loopw [4] (fun v wr => ∃ (m : Int) (left : Lit → Bool) (cnt : Nat), v = .int .i64 m ∧ wr.ranges Try.prog 3 (plainElem Try.prog 3) mb w.heap.size n D left cnt ∧ (∀ x c, f x = some c → left (kI x) = false → m ≤ c) ∧ (∀ kl, left kl = true → Maps.has D kl = true) ∧ (m ≤ 1002 ∧ I64 m) ∧ (m = 1002 ∨ ∃ x, f x = some m) ∧ Ext w wr) (fun _ wr => wr.rangeLeft mb w.heap.size)
  case atStart => exact ⟨1002, Maps.has D, Maps.size D, rfl, HG.out, fun x c hfx hl => by { rw [HR.out.has x (HD.out x c hfx), hfx] at hl; cases hl }, fun _ h => h, ⟨by omega, by unfold I64; omega⟩, .inl rfl, hE0⟩
  case round =>
    obtain ⟨m, left, cnt, rfl, hrg, hlow, hsub, hle, hgot, hx⟩ := hrel
    have HRg := Lib.hid hrg
    have HL := Lib.hid hlow
    have HS := Lib.hid hsub
    clear hrg hlow hsub
    go_wp2_with (at_next; refine wpList_next_ranges_ii _ rfl _ rfl 3 3 .i64 .i64 keyed_i under_int under_int mb w.heap.size n _ _ _ rfl HRg.out ?_ ?_)
    · intro hc0 hl0
      have hL : IsLeast f m := ⟨hle.1, fun x c hx => HL.out x c hx (hl0 _), hgot⟩
      have HLe := Lib.hid hL
      clear hL hl0 hgot hle HL HS hc0
      have HO := Lib.hid HRg.out.owns
      clear HRg
      go_wp2_with (at_range; refine wpList_range_own _ rfl _ 115 rfl 3 3 keyed_i under_map _ mb n D rfl HO.out ?_; intro w2 hrg2 hg2 hs2)
      go_frame
      have hmb : mb ≠ b := by
        rintro rfl
        obtain ⟨t, ht⟩ := H.out
        obtain ⟨es, cl, he, _⟩ := HM.out
        rw [ht] at he; cases he
      have hblt := H.out.lt
      have hmlt : mb < w.heap.size := HM.out.lt
      have hE2 : Ext w w2 := Chg.to_ext hx (grown_chg hg2) (by intro i hi; cases hi)
      have hB2 := H.out.ext hE2
      have hRs : w.heap.size ≤ wr.heap.size := Below.size hx
      generalize hR : wr.heap.size = R at *
      have HG2 := Lib.hid hrg2
      clear hrg2 hg2 hx HO
      go_loopw [7] (fun _ wr => ∃ (wv : Value) (xs : List Int) (left : Lit → Bool) (cnt : Nat), wr.ranges Try.prog 3 (plainElem Try.prog 3) mb R n D left cnt ∧ Blk wr b (gmC cv r lv dv iv next round over wv em done) ∧ OwnI wr (R + 1) wv xs ∧ xs.Nodup ∧ (∀ x, x ∈ xs ↔ f x = some m ∧ left (kI x) = false) ∧
        (∀ kl, left kl = true → Maps.has D kl = true) ∧ xs.length + cnt ≤ Maps.size D ∧ R + 1 ≤ wr.heap.size ∧ Chg (· = b) w wr) (fun _ wr => wr.rangeLeft mb R)
      case atStart => exact ⟨_, [], Maps.has D, Maps.size D, HG2.out, hB2, OwnI.nil _ _, List.nodup_nil, fun x => ⟨fun h => by { cases h }, fun ⟨h1, h2⟩ => by { rw [HR.out.has x (HD.out x _ h1), h1] at h2; cases h2 }⟩, fun _ h => h, by simp, by omega, hE2.chg _⟩
      case round =>
        obtain ⟨wv, xs, left, cnt, hrg, hB, hO, hnd, hmem, hsub, hcnt, hsz, hC⟩ := hrel
        have HRg := Lib.hid hrg
        have HB := Lib.hid hB
        have HO := Lib.hid hO
        have HMm := Lib.hid hmem
        have HS := Lib.hid hsub
        clear hrg hB hO hmem hsub
        go_wp2_with (at_next; refine wpList_next_ranges_ii _ rfl _ rfl 3 3 .i64 .i64 keyed_i under_int under_int mb R n _ _ _ rfl HRg.out ?_ ?_)
        · intro hc0 hl0
          have hmem2 : ∀ y, y ∈ xs ↔ f y = some m := fun y => by rw [HMm.out y, hl0]; simp
          have HM2 := Lib.hid hmem2
          obtain ⟨av, ac, rfl, -⟩ := HO.out.cells
          have hc10 := HB.out.cell 10 rfl
          have hc9 := HB.out.cell 9 (v := .bool over) rfl
          have hc7 := HB.out.cell 7 (v := .int .i64 next) rfl
          have hbw := HB.out.lt
          have hfr := HO.out.from
          have hS3 := sort_own HO.out (by omega)
          have HFr := Lib.hid hfr
          clear hmem2 hl0 hc0 hfr HG2 hB2 hE2
          go_wp2_with fail
          refine hS3.mono ?_
          clear hS3
          rintro e w3 ⟨rfl, hO3, hC3⟩
          have hB3 := HB.out.chg hC3 (fun e => by have := HFr.out _ e; omega)
          have hC4 := hC.then hC3 (fun i e => .inl (by have := HFr.out _ e; omega))
          have HO3 := Lib.hid hO3
          have hfr3 := hO3.from
          have HFr3 := Lib.hid hfr3
          have f9 := hB3.frozen 9
          have f7 := hB3.frozen 7
          have d9 := hB3.cell 9 (v := .bool over) rfl
          have d7 := hB3.cell 7 (v := .int .i64 next) rfl
          have hb3 := hB3.lt
          have HB3 := Lib.hid hB3
          clear hO3 hfr3 hC3 hc10 hc9 hc7 hbw hB3
          go_wp2
          refine bodyPost_end (results_none rfl _ _ _) rfl ?_
          refine ⟨rfl, _, _, m, (HB3.out.set 9 (.bool true)).set 7 (.int .i64 (-1)), own_mono ((HO3.out.chg (Chg.setCell (S := (· = b)) (Chg.refl _ w3) (p := ⟨b, 9, none⟩) (.inr rfl) _) ?_).chg (Chg.setCell (S := (· = b)) (Chg.refl _ _) (p := ⟨b, 7, none⟩) (.inr rfl) _) ?_) (by omega), sorted_lt hnd, HLe.out, fun x => mem_sorted.trans (HM2.out x), (hC4.setCell (.inr rfl) _).setCell (.inr rfl) _⟩
          · intro k hk e; have := HFr3.out k hk; omega
          · intro k hk e; have := HFr3.out k hk; omega
        · intro x c w1 cnt1 hwx hwc hlx hat hrg1 hlt hg1 hs1 hen
          have hfx : f x = some c := HR.out.entry (HS.out _ hlx) hat
          have hC1 : Chg (· = b) w w1 := hC.then (grown_chg hg1) (by intro i hi; cases hi; omega)
          have hB1 := HB.out.chg (grown_chg hg1) (by intro e; cases e; omega)
          have hO1 : OwnI w1 (R + 1) wv xs := HO.out.chg (grown_chg hg1) (fun k hk e => by cases e; have := HO.out.from _ hk; omega)
          have HRg1 := Lib.hid hrg1
          have hml : w1.rangeLeft mb R < wr.rangeLeft mb R := by rw [hrg1.left_eq, HRg.out.left_eq]; exact hlt
          have HFx := Lib.hid hfx
          have HLx := Lib.hid hlx
          have HO1 := Lib.hid hO1
          have hc10 := hB1.cell 10 (v := wv) rfl
          have hf10 := hB1.frozen 10
          have hb1 := hB1.lt
          have HB1 := Lib.hid hB1
          have hsz1 : R + 1 ≤ w1.heap.size := by omega
          clear hat hg1 hrg1 hwx hwc hfx hlx hO1 hB1 hB2 hE2 hs1
          cases e1 : c == m
          · have hne : c ≠ m := by intro h; subst h; simp at e1
            go_wp2
            go_roundw
            case rel => exact ⟨wv, xs, _, cnt1, HRg1.out, HB1.out, HO1.out, hnd, mem_skip HMm.out HFx.out hne, fun kl hl => HS.out kl (by simp only [Bool.and_eq_true] at hl; exact hl.1), by omega, by omega, hC1⟩
            case measure => exact hml
          · obtain rfl : c = m := by simpa using e1
            have hT := mem_take HMm.out HFx.out HLx.out hnd
            have HT := Lib.hid hT
            clear hT
            go_wp2_with (at_builtin; refine wp_append_i rfl _ _ rfl (R + 1) wv xs rfl (HO1.out.ext ((Ext.refl w1).alloc _)) ⟨w1.heap.size, 0, none⟩ 1 x rfl (by simp [go_sem]) (by omega) (by simp; omega) ?_)
            intro v' w4 hO4 hg4
            obtain ⟨av, ac, hv', -⟩ := hO4.cells
            rw [show (xs ++ [x]).length = xs.length + 1 by simp] at hv'
            have hfr := HO1.out.from
            have hC4 := (hC1.alloc _).then (grown_chg hg4) (fun i e => .inl (by have := hfr i e; omega))
            have hB4 := (HB1.out.alloc _).chg (grown_chg hg4) (fun e => by have := hfr _ e; omega)
            have hR4 := ranges_chg (ranges_chg HRg1.out ((Chg.refl (fun _ => False) w1).alloc _) id id) (grown_chg hg4) (fun e => by have := hfr _ e; omega) (fun e => by have := hfr _ e; omega)
            have hs4 : R + 1 ≤ w4.heap.size := by have := hC4.size; have := ranges_lt hR4; have := Chg.size (grown_chg hg4); simp at this; omega
            have f10 := hB4.frozen 10
            have c10 := hB4.cell 10 rfl
            have b4 := hB4.lt
            have hset := Chg.setCell (S := (· = b)) (Chg.refl _ w4) (p := ⟨b, 10, none⟩) (.inr rfl) v'
            have hR5 := ranges_chg hR4 hset hmb (by omega)
            have hO5 := hO4.chg hset (fun k hk e => by have := hO4.from k hk; omega)
            have HB5 := Lib.hid (hB4.set 10 v')
            have HR5 := Lib.hid hR5
            have HO5 := Lib.hid hO5
            have hml5 : (w4.setCell ⟨b, 10, none⟩ v').rangeLeft mb R < wr.rangeLeft mb R := by rw [hR5.left_eq, HRg.out.left_eq]; exact hlt
            clear hO4 hg4 hfr hR4 hR5 hO5 hB4 hset
            subst hv'
            go_wp2
            go_roundw
            case rel => exact ⟨_, xs ++ [x], _, cnt1, HR5.out, HB5.out, HO5.out, HT.out.1, HT.out.2, fun kl hl => HS.out kl (by simp only [Bool.and_eq_true] at hl; exact hl.1), by simp; omega, by simp; omega, hC4.setCell (.inr rfl) _⟩
            case measure => exact hml5
    · intro x c w1 cnt1 hwx hwc hlx hat hrg1 hlt hg1 hs1 hen
      have hfx : f x = some c := by
        have h1 := HS.out _ hlx
        have hI : I64 x := by obtain ⟨y, hy, hi⟩ := HR.out.dom _ h1; cases hy; exact hi
        have h2 := HR.out.has x hI
        rw [show kI x = Lit.int .i64 x from rfl, h1] at h2
        obtain ⟨c', hc'⟩ := Option.isSome_iff_exists.1 h2.symm
        have h3 := HR.out.at_ x c' hc' (.lit (.int .i64 0))
        rw [show kI x = Lit.int .i64 x from rfl, hat] at h3
        cases h3; exact hc'
      have hE1 : Ext w w1 := Chg.to_ext hx (grown_chg hg1) (by intro i hi; cases hi; omega)
      have HRg1 := Lib.hid hrg1
      have hcI := HF.out x c hfx
      have hml : w1.rangeLeft mb w.heap.size < wr.rangeLeft mb w.heap.size := by rw [hrg1.left_eq, HRg.out.left_eq]; exact hlt
      have HFx := Lib.hid hfx
      clear hat hg1 hrg1 hwx hwc hfx
      go_wp2
      go_roundw
      case rel =>
        have hfx := HFx.out
        refine ⟨min m c, _, _, rfl, HRg1.out, fun y d hy hl => ?_, fun kl hl => HS.out kl (by simp only [Bool.and_eq_true] at hl; exact hl.1), ⟨by omega, by have := hle.2; unfold I64 at *; omega⟩, ?_, hE1⟩
        · simp only [Bool.and_eq_false_iff, Bool.not_eq_false'] at hl
          rcases hl with hl | hl
          · have := HL.out y d hy hl; omega
          · have := WideAt.sameKey_eq hl
            have e : y = x := by cases this; rfl
            subst e; rw [hfx] at hy; cases hy; omega
        · by_cases hcm : c < m
          · exact .inr ⟨x, by rw [hfx]; congr 1; omega⟩
          · rw [show min m c = m by omega]; exact hgot
      case measure => exact hml
end Go.Proofs.Ytpifdeglhalefaa
