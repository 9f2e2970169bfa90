/-
  Package board: IndexFunc and ContainsFunc of weeks; watch.
-/
import Derived.Test.YtlkbbcfbnbnagaaGreatBoV
import Derived.Test.YtlkbbcfbnbnagaaGreatBoL
import Derived.BigQuiet
namespace Go.Proofs.YtlkbbcfbnbnagaaGreat
open Go.RowKit Go.BigFrame
attribute [local go_sem] Later.cell Later.frozen
theorem WksAt.get {S : Nat → Prop} {W : World} {a : Option Addr} {n c : Nat} {wks : List (List Int)} (h : WksAt S W (.slice a n c) wks) (i : Nat) (hi : i < wks.length) :
    ∃ b o ua uc, a = some ⟨b, o, none⟩ ∧ b < W.heap.size ∧ W.cell? ⟨b, o + i, none⟩ = some (.slice ua wks[i].length uc) ∧ RdI S W (.slice ua wks[i].length uc) wks[i] := by
  obtain ⟨a', c', h1, h2, h3, h4⟩ := h
  cases h1
  obtain ⟨b, o, cs, t, f, u, e1, e2, e3, e4, e5⟩ := h4 i hi
  obtain ⟨ua, uc, rfl, -⟩ := e5.cells
  exact ⟨b, o, ua, uc, e1, (Array.getElem?_eq_some_iff.1 e3).1, by unfold World.cell?; simp only [e3]; exact e4, e5⟩
/-- What a function value owes. -/
def TestsW (g : Nat) (cap : Array Value) (p : List Int → Bool) (xs : List (List Int)) (w : World) : Prop :=
  ∀ x, x ∈ xs → ∀ w1, Ext w w1 → ∀ ua uc, RdI S0 w1 (.slice ua x.length uc) x → Calls Tryz.prog g (#[.slice ua x.length uc] ++ cap) w1 fun e w' => e = .returned (.bool (p x)) ∧ Ext w1 w'
theorem indexFunc_w (g : Nat) (cap : Array Value) (eg : Enters Tryz.prog g) (p : List Int → Bool) (xs : List (List Int)) (a : Option Addr) (c : Nat) (w : World) (ha : WksAt S0 w (.slice a xs.length c) xs) (hl : xs.length ≤ 1000000)
    (hg : TestsW g cap p xs w) :
    Calls Tryz.prog 78 #[.slice a xs.length c, .func (.func g) #[] cap] w fun e w' => e = .returned (.int .i64 (idx p xs)) ∧ Ext w w' := by
  unfold Enters at eg
  go_enter Tryz.func78, Tryz.ntmps78
  go_wp2
  go_loopw [8] (fun i wr => ∃ k : Nat, k ≤ xs.length ∧ i = .int .i64 k ∧ (∀ j, (h : j < xs.length) → j < k → p xs[j] = false) ∧ Ext w wr) (fun i _ => xs.length - (intOf i).toNat)
  case atStart => exact ⟨0, Nat.zero_le _, rfl, by omega, Ext.refl w⟩
  case round =>
    obtain ⟨k, hk, rfl, hall, hx⟩ := hrel
    by_cases hlt : k < xs.length
    · obtain ⟨b, off, ua, uc, rfl, hb, hc0, hr0⟩ := ha.get k hlt
      replace hc0 := hx.cell hc0
      have hbl := lt_of_cell hc0
      simp only at hbl
      have hgk := hg xs[k] (List.getElem_mem hlt) wr hx ua uc (hr0.keep (.of_ext hx))
      have H := Lib.hid hall
      clear hall ha hg hr0 hb
      go_wp2_with fail
      refine hgk.mono ?_
      rintro e w1 ⟨rfl, hx1⟩
      cases hp : p xs[k]
      · go_wp2
        go_roundw
        case rel => exact ⟨k + 1, by omega, by go_num, fun j hj hjk => by rcases Nat.lt_or_ge j k with h | h; exact H.out j hj h; obtain rfl : j = k := by omega
                                                                          exact hp, hx.trans hx1⟩
        case measure => simp [intOf]; omega
      · go_wp2
        go_ret
        exact ⟨ret_int (idx_hit p xs k hlt hp H.out).symm, hx.trans hx1⟩
    · go_wp2
      go_ret
      exact ⟨ret_int (idx_none p xs fun j hj => hall j hj (by omega)).symm, hx⟩
theorem containsFunc_w (g : Nat) (cap : Array Value) (eg : Enters Tryz.prog g) (p : List Int → Bool) (xs : List (List Int)) (a : Option Addr) (c : Nat) (w : World) (ha : WksAt S0 w (.slice a xs.length c) xs) (hl : xs.length ≤ 1000000)
    (hg : TestsW g cap p xs w) :
    Calls Tryz.prog 50 #[.slice a xs.length c, .func (.func g) #[] cap] w fun e w' => e = .returned (.bool (xs.any p)) ∧ Ext w w' := by
  go_enter Tryz.func50, Tryz.ntmps50
  go_wp2_with fail
  refine (indexFunc_w g cap eg p xs a c w ha hl hg).mono ?_
  rintro e w1 ⟨rfl, hx⟩
  go_wp2
  go_ret
  exact ⟨ret_bool (idx_any p xs), hx⟩
theorem brd_watch1 (a : Option Addr) (m c n : Nat) (al : Addr) (w : World) (h1 : w.cell? al = some (.int .i64 n)) :
    Calls Tryz.prog 51 #[.slice a m c, .pointer (some al)] w fun e w' => e = .returned (.bool (decide (m ≠ n))) ∧ Ext w w' := by
  obtain ⟨d, hd⟩ : ∃ d, ((m : Int) != (n : Int)) = d := ⟨_, rfl⟩
  have e : decide (m ≠ n) = d := by rw [← hd, Bool.eq_iff_iff, decide_eq_true_eq, bne_iff_ne]; omega
  rw [e]
  clear e
  go_enter Tryz.func51, Tryz.ntmps51
  go_wp2
  go_ret
  exact ⟨rfl, Ext.refl w⟩
theorem enters_watch1 : Enters Tryz.prog 51 := enters_of Tryz.func51 (by kernel_rfl) rfl
theorem brd_watch2 (l : List Int) (a : Option Addr) (c : Nat) (w : World) (hl : l.length ≤ maxLen) (ha : CellsAt w .i64 a l) :
    Calls Tryz.prog 52 #[.slice a l.length c] w fun e w' => e = .returned (.bool (!ins 0 1000000 l)) ∧ Ext w w' := by
  have HC := Lib.hid (brd_within 0 1000000 l a c w (by unfold maxLen at hl; omega) ha)
  obtain ⟨n, hn⟩ : ∃ n, l.length = n := ⟨_, rfl⟩
  rw [hn] at HC ⊢
  clear hl ha hn
  generalize ins 0 1000000 l = r at *
  go_enter Tryz.func52, Tryz.ntmps52
  go_wp2_with fail
  refine HC.out.mono ?_
  rintro e w1 ⟨rfl, hx⟩
  go_wp2
  go_ret
  exact ⟨rfl, hx⟩
theorem enters_watch2 : Enters Tryz.prog 52 := enters_of Tryz.func52 (by kernel_rfl) rfl
def formB (n : Nat) (worn : List Int) (wks : List (List Int)) : Int :=
  if (decide (worn.length ≠ n) || wks.any fun l => decide (l.length ≠ n)) = true then 4 else if (!ins 0 1000000000 worn || wks.any fun l => !ins 0 1000000 l) = true then 2 else 0
def watB (b : Brd) (worn : List Int) (wks : List (List Int)) : Int := if errB b ≠ 0 then errB b else formB b.nums.length worn wks
theorem set6_pack {w W : World} (hx : Ext w W) {n : Nat} (hn : w.heap.size ≤ n) {a0 a1 a2 a3 a4 a5 : Value} (h : Blk W n #[a0, a1, a2, a3, a4, a5]) (v0 v1 v2 v3 v4 v5 : Value) :
    ∃ W2, ((((((W.setCell ⟨n, 0, none⟩ v0).setCell ⟨n, 1, none⟩ v1).setCell ⟨n, 2, none⟩ v2).setCell ⟨n, 3, none⟩ v3).setCell ⟨n, 4, none⟩ v4).setCell ⟨n, 5, none⟩ v5) = W2 ∧ Blk W2 n #[v0, v1, v2, v3, v4, v5] ∧ Ext w W2 :=
  ⟨_, rfl, blk_set6 h .., (((((hx.setCell (p := ⟨n, 0, none⟩) hn v0).setCell (p := ⟨n, 1, none⟩) hn v1).setCell (p := ⟨n, 2, none⟩) hn v2).setCell (p := ⟨n, 3, none⟩) hn v3).setCell (p := ⟨n, 4, none⟩) hn v4).setCell (p := ⟨n, 5, none⟩) hn v5⟩
set_option maxHeartbeats 2000000 in
theorem brd_watch (v : BrdV) (b : Brd) (worn : List Int) (wks : List (List Int)) (wa ka : Option Addr) (wc kc : Nat) (w : World) (h : BrdAt w v b) (hs : SmallB b) (hw : RdI S0 w (.slice wa worn.length wc) worn) (hk : WksAt S0 w (.slice ka wks.length kc) wks) (hl : wks.length ≤ 1000000) :
    Calls Tryz.prog 30 #[.agg (v.cells b), .slice wa worn.length wc, .slice ka wks.length kc] w fun e w' => e = .returned (.tuple #[.agg (v.cells b), .int .i64 (watB b worn wks)]) ∧ Ext w w' := by
  have HO := Lib.hid (fun W (hx : Ext w W) => brd_open v b W (h.ext hx) hs)
  obtain ⟨wa', wc', e1, hwc, hwl, hwm, -⟩ := hw.cells
  cases e1
  have HI := Lib.hid (fun W (hx : Ext w W) => brd_within 0 1000000000 worn wa wc W (by unfold maxLen at hwm; omega) (hwc.ext hx))
  have HK := Lib.hid (fun W (hx : Ext w W) => (hk.keep (.of_ext hx)))
  obtain ⟨r, hr⟩ : ∃ r, watB b worn wks = r := ⟨_, rfl⟩
  have HR := Lib.hid hr
  rw [hr]
  generalize herr : errB b = er at HO
  have HER := Lib.hid herr
  obtain ⟨eye, bull, rings, lines, nums, wire⟩ := b
  obtain ⟨ra, la, na, rc, lc, nc⟩ := v
  unfold BrdV.cells at *
  simp only at HO ⊢
  clear h hs hw hk hr herr hwc
  go_enter Tryz.func30, Tryz.ntmps30
  go_wp2_with fail
  refine (HO.out _ (((Ext.refl w).alloc _).alloc _)).mono ?_
  rintro e w1 ⟨rfl, hx1⟩
  have hX1 := (((Ext.refl w).alloc (.cells #[.int .i64 eye, .int .i64 bull, .slice ra rings.length rc, .slice la lines.length lc, .slice na nums.length nc, .int .i64 wire] 26)).alloc (.cells #[.int .i64 0, .int .i64 0, .slice none 0 0, .slice none 0 0, .slice none 0 0, .int .i64 0] 74)).trans hx1
  have hbb : Blk w1 w.heap.size #[.int .i64 eye, .int .i64 bull, .slice ra rings.length rc, .slice la lines.length lc, .slice na nums.length nc, .int .i64 wire] := ((Blk.new _ _ _).alloc _).ext hx1
  have hrb1 : Blk w1 (w.heap.size + 1) #[.int .i64 0, .int .i64 0, .slice none 0 0, .slice none 0 0, .slice none 0 0, .int .i64 0] := (Blk.at _ (by simp)).ext hx1
  have HX1 := Lib.hid hX1
  have HRB := Lib.hid hrb1
  have HBB := Lib.hid hbb
  clear hx1 hX1
  by_cases h0 : er = 0
  case neg =>
    have e : r = er := by rw [← HR.out]; unfold watB; rw [HER.out, if_pos h0]
    subst e
    have h0' : (r != 0) = true := by simpa using h0
    have r0 := hrb1.frozen 0
    have r1 := hrb1.frozen 1
    have r2 := hrb1.frozen 2
    have r3 := hrb1.frozen 3
    have r4 := hrb1.frozen 4
    have r5 := hrb1.frozen 5
    have s0 := hrb1.cell 0 (v := .int .i64 0) rfl
    have s1 := hrb1.cell 1 (v := .int .i64 0) rfl
    have s2 := hrb1.cell 2 (v := .slice none 0 0) rfl
    have s3 := hrb1.cell 3 (v := .slice none 0 0) rfl
    have s4 := hrb1.cell 4 (v := .slice none 0 0) rfl
    have s5 := hrb1.cell 5 (v := .int .i64 0) rfl
    have hrl := hrb1.lt
    clear hbb hrb1
    go_wp2
    obtain ⟨W2, hW2, hB2, hX2⟩ := set6_pack HX1.out (n := w.heap.size + 1) (by omega) HRB.out (.int .i64 eye) (.int .i64 bull) (.slice ra rings.length rc) (.slice la lines.length lc) (.slice na nums.length nc) (.int .i64 wire)
    rw [hW2]
    replace hB2 := hB2.alloc (.cells #[.int .i64 eye, .int .i64 bull, .slice ra rings.length rc, .slice la lines.length lc, .slice na nums.length nc, .int .i64 wire] 74)
    have d0 := hB2.cell 0 (v := .int .i64 eye) rfl
    have d1 := hB2.cell 1 (v := .int .i64 bull) rfl
    have d2 := hB2.cell 2 (v := .slice ra rings.length rc) rfl
    have d3 := hB2.cell 3 (v := .slice la lines.length lc) rfl
    have d4 := hB2.cell 4 (v := .slice na nums.length nc) rfl
    have d5 := hB2.cell 5 (v := .int .i64 wire) rfl
    refine bodyPost_ret (v := .tuple #[.agg #[.int .i64 eye, .int .i64 bull, .slice ra rings.length rc, .slice la lines.length lc, .slice na nums.length nc, .int .i64 wire], .int .i64 r]) (by simp [results, Tryz.results30, go_sem, d0, d1, d2, d3, d4, d5]) rfl ⟨rfl, hX2.alloc _⟩
  subst h0
  have hR0 : r = formB nums.length worn wks := by rw [← HR.out]; unfold watB; rw [HER.out, if_neg (by simp)]
  have HR0 := Lib.hid hR0
  clear hbb hrb1 hR0
  go_upto_region 4 with fail
  obtain ⟨wt, hwt⟩ : ∃ x, x = w1.alloc (.cells #[.int .i64 eye, .int .i64 bull, .slice ra rings.length rc, .slice la lines.length lc, .slice na nums.length nc, .int .i64 wire] 74) := ⟨_, rfl⟩
  rw [← hwt]
  have hxt : Ext w1 wt := by rw [hwt]; exact (Ext.refl w1).alloc _
  have htb : Blk wt w1.heap.size #[.int .i64 eye, .int .i64 bull, .slice ra rings.length rc, .slice la lines.length lc, .slice na nums.length nc, .int .i64 wire] := by rw [hwt]; exact Blk.new _ _ _
  have HXT := Lib.hid (HX1.out.trans hxt)
  have HTB := Lib.hid htb
  have HRT := Lib.hid (HRB.out.ext hxt)
  have n4 := (HBB.out.ext hxt).cell 4 (v := .slice na nums.length nc) rfl
  have hbl := (HBB.out.ext hxt).lt
  have hrt := HRT.out.lt
  have hs1 := hxt.size
  clear hwt hxt htb
  obtain ⟨d1, hd1⟩ : ∃ d, ((worn.length : Int) != (nums.length : Int)) = d := ⟨_, rfl⟩
  have hd1' : decide (worn.length ≠ nums.length) = d1 := by rw [← hd1, Bool.eq_iff_iff, decide_eq_true_eq, bne_iff_ne]; omega
  have HD1 := Lib.hid hd1'
  clear hd1'
  cases d1
  case true =>
    have e : r = 4 := by rw [HR0.out]; unfold formB; rw [HD1.out]; rfl
    subst e
    have hrb := HRT.out
    have htb := HTB.out
    have r0 := hrb.frozen 0
    have r1 := hrb.frozen 1
    have r2 := hrb.frozen 2
    have r3 := hrb.frozen 3
    have r4 := hrb.frozen 4
    have r5 := hrb.frozen 5
    have s0 := hrb.cell 0 (v := .int .i64 0) rfl
    have s1 := hrb.cell 1 (v := .int .i64 0) rfl
    have s2 := hrb.cell 2 (v := .slice none 0 0) rfl
    have s3 := hrb.cell 3 (v := .slice none 0 0) rfl
    have s4 := hrb.cell 4 (v := .slice none 0 0) rfl
    have s5 := hrb.cell 5 (v := .int .i64 0) rfl
    have hrl := hrb.lt
    have m0 := htb.cell 0 (v := .int .i64 eye) rfl
    have m1 := htb.cell 1 (v := .int .i64 bull) rfl
    have m2 := htb.cell 2 (v := .slice ra rings.length rc) rfl
    have m3 := htb.cell 3 (v := .slice la lines.length lc) rfl
    have m4 := htb.cell 4 (v := .slice na nums.length nc) rfl
    have m5 := htb.cell 5 (v := .int .i64 wire) rfl
    have hml := htb.lt
    clear hrb htb
    go_wp2
    obtain ⟨W2, hW2, hB2, hX2⟩ := set6_pack HXT.out (n := w.heap.size + 1) (by omega) HRT.out (.int .i64 eye) (.int .i64 bull) (.slice ra rings.length rc) (.slice la lines.length lc) (.slice na nums.length nc) (.int .i64 wire)
    rw [hW2]
    replace hB2 := hB2.alloc (.cells #[.int .i64 nums.length] 3)
    have d0 := hB2.cell 0 (v := .int .i64 eye) rfl
    have d1 := hB2.cell 1 (v := .int .i64 bull) rfl
    have d2 := hB2.cell 2 (v := .slice ra rings.length rc) rfl
    have d3 := hB2.cell 3 (v := .slice la lines.length lc) rfl
    have d4 := hB2.cell 4 (v := .slice na nums.length nc) rfl
    have d5 := hB2.cell 5 (v := .int .i64 wire) rfl
    refine bodyPost_ret (v := .tuple #[.agg #[.int .i64 eye, .int .i64 bull, .slice ra rings.length rc, .slice la lines.length lc, .slice na nums.length nc, .int .i64 wire], .int .i64 4]) (by simp [results, Tryz.results30, go_sem, d0, d1, d2, d3, d4, d5]) rfl ⟨rfl, hX2.alloc _⟩
  go_wp2_with fail
  have hx2 : Ext wt (wt.alloc (.cells #[.int .i64 nums.length] 3)) := (Ext.refl wt).alloc _
  have c1 : (wt.alloc (.cells #[.int .i64 nums.length] 3)).cell? ⟨wt.heap.size, 0, none⟩ = some (.int .i64 nums.length) := (Blk.new wt _ _).cell 0 rfl
  refine (containsFunc_w 51 #[.pointer (some ⟨wt.heap.size, 0, none⟩)] enters_watch1 (fun l => decide (l.length ≠ nums.length)) wks ka kc _ (HK.out _ (HXT.out.trans hx2)) hl (fun x _ w1 hx ua uc _ => brd_watch1 ua x.length uc nums.length _ w1 (hx.cell c1))).mono ?_
  rintro e w2 ⟨rfl, hx2'⟩
  have HX2 := Lib.hid (HXT.out.trans (hx2.trans hx2'))
  have HR2 := Lib.hid (HRT.out.ext (hx2.trans hx2'))
  have HT2 := Lib.hid (HTB.out.ext (hx2.trans hx2'))
  have hs2 := hx2'.size
  clear hx2 hx2' c1 n4 hbl hrt
  cases ha : wks.any fun l => decide (l.length ≠ nums.length)
  case true =>
    have e : r = 4 := by rw [HR0.out]; unfold formB; rw [HD1.out, ha]; rfl
    subst e
    have hrb := HR2.out
    have htb := HT2.out
    have r0 := hrb.frozen 0
    have r1 := hrb.frozen 1
    have r2 := hrb.frozen 2
    have r3 := hrb.frozen 3
    have r4 := hrb.frozen 4
    have r5 := hrb.frozen 5
    have s0 := hrb.cell 0 (v := .int .i64 0) rfl
    have s1 := hrb.cell 1 (v := .int .i64 0) rfl
    have s2 := hrb.cell 2 (v := .slice none 0 0) rfl
    have s3 := hrb.cell 3 (v := .slice none 0 0) rfl
    have s4 := hrb.cell 4 (v := .slice none 0 0) rfl
    have s5 := hrb.cell 5 (v := .int .i64 0) rfl
    have hrl := hrb.lt
    have m0 := htb.cell 0 (v := .int .i64 eye) rfl
    have m1 := htb.cell 1 (v := .int .i64 bull) rfl
    have m2 := htb.cell 2 (v := .slice ra rings.length rc) rfl
    have m3 := htb.cell 3 (v := .slice la lines.length lc) rfl
    have m4 := htb.cell 4 (v := .slice na nums.length nc) rfl
    have m5 := htb.cell 5 (v := .int .i64 wire) rfl
    have hml := htb.lt
    clear hrb htb
    go_wp2
    obtain ⟨W2, hW2, hB2, hX2⟩ := set6_pack HX2.out (n := w.heap.size + 1) (by omega) HR2.out (.int .i64 eye) (.int .i64 bull) (.slice ra rings.length rc) (.slice la lines.length lc) (.slice na nums.length nc) (.int .i64 wire)
    rw [hW2]
    have d0 := hB2.cell 0 (v := .int .i64 eye) rfl
    have d1 := hB2.cell 1 (v := .int .i64 bull) rfl
    have d2 := hB2.cell 2 (v := .slice ra rings.length rc) rfl
    have d3 := hB2.cell 3 (v := .slice la lines.length lc) rfl
    have d4 := hB2.cell 4 (v := .slice na nums.length nc) rfl
    have d5 := hB2.cell 5 (v := .int .i64 wire) rfl
    refine bodyPost_ret (v := .tuple #[.agg #[.int .i64 eye, .int .i64 bull, .slice ra rings.length rc, .slice la lines.length lc, .slice na nums.length nc, .int .i64 wire], .int .i64 4]) (by simp [results, Tryz.results30, go_sem, d0, d1, d2, d3, d4, d5]) rfl ⟨rfl, hX2⟩
  go_wp2_with fail
  refine (HI.out _ HX2.out).mono ?_
  rintro e w3 ⟨rfl, hx3⟩
  have HX3 := Lib.hid (HX2.out.trans hx3)
  have HR3 := Lib.hid (HR2.out.ext hx3)
  have HT3 := Lib.hid (HT2.out.ext hx3)
  clear hx3
  cases hb : ins 0 1000000000 worn
  case false =>
    have e : r = 2 := by rw [HR0.out]; unfold formB; rw [HD1.out, ha, hb]; rfl
    subst e
    have hrb := HR3.out
    have htb := HT3.out
    have r0 := hrb.frozen 0
    have r1 := hrb.frozen 1
    have r2 := hrb.frozen 2
    have r3 := hrb.frozen 3
    have r4 := hrb.frozen 4
    have r5 := hrb.frozen 5
    have s0 := hrb.cell 0 (v := .int .i64 0) rfl
    have s1 := hrb.cell 1 (v := .int .i64 0) rfl
    have s2 := hrb.cell 2 (v := .slice none 0 0) rfl
    have s3 := hrb.cell 3 (v := .slice none 0 0) rfl
    have s4 := hrb.cell 4 (v := .slice none 0 0) rfl
    have s5 := hrb.cell 5 (v := .int .i64 0) rfl
    have hrl := hrb.lt
    have m0 := htb.cell 0 (v := .int .i64 eye) rfl
    have m1 := htb.cell 1 (v := .int .i64 bull) rfl
    have m2 := htb.cell 2 (v := .slice ra rings.length rc) rfl
    have m3 := htb.cell 3 (v := .slice la lines.length lc) rfl
    have m4 := htb.cell 4 (v := .slice na nums.length nc) rfl
    have m5 := htb.cell 5 (v := .int .i64 wire) rfl
    have hml := htb.lt
    clear hrb htb
    go_wp2
    obtain ⟨W2, hW2, hB2, hX2⟩ := set6_pack HX3.out (n := w.heap.size + 1) (by omega) HR3.out (.int .i64 eye) (.int .i64 bull) (.slice ra rings.length rc) (.slice la lines.length lc) (.slice na nums.length nc) (.int .i64 wire)
    rw [hW2]
    have d0 := hB2.cell 0 (v := .int .i64 eye) rfl
    have d1 := hB2.cell 1 (v := .int .i64 bull) rfl
    have d2 := hB2.cell 2 (v := .slice ra rings.length rc) rfl
    have d3 := hB2.cell 3 (v := .slice la lines.length lc) rfl
    have d4 := hB2.cell 4 (v := .slice na nums.length nc) rfl
    have d5 := hB2.cell 5 (v := .int .i64 wire) rfl
    refine bodyPost_ret (v := .tuple #[.agg #[.int .i64 eye, .int .i64 bull, .slice ra rings.length rc, .slice la lines.length lc, .slice na nums.length nc, .int .i64 wire], .int .i64 2]) (by simp [results, Tryz.results30, go_sem, d0, d1, d2, d3, d4, d5]) rfl ⟨rfl, hX2⟩
  go_wp2_with fail
  refine (containsFunc_w 52 #[] enters_watch2 (fun l => !ins 0 1000000 l) wks ka kc _ (HK.out _ HX3.out) hl (fun x _ w1 hx ua uc hr => by
    obtain ⟨a', c', e, hc, h1, h2, -⟩ := hr.cells
    cases e
    exact brd_watch2 x ua uc w1 (by omega) hc)).mono ?_
  rintro e w4 ⟨rfl, hx4⟩
  have HX4 := Lib.hid (HX3.out.trans hx4)
  have HR4 := Lib.hid (HR3.out.ext hx4)
  have HT4 := Lib.hid (HT3.out.ext hx4)
  clear hx4
  cases hc : wks.any fun l => !ins 0 1000000 l
  case true =>
    have e : r = 2 := by rw [HR0.out]; unfold formB; rw [HD1.out, ha, hb, hc]; rfl
    subst e
    have hrb := HR4.out
    have htb := HT4.out
    have r0 := hrb.frozen 0
    have r1 := hrb.frozen 1
    have r2 := hrb.frozen 2
    have r3 := hrb.frozen 3
    have r4 := hrb.frozen 4
    have r5 := hrb.frozen 5
    have s0 := hrb.cell 0 (v := .int .i64 0) rfl
    have s1 := hrb.cell 1 (v := .int .i64 0) rfl
    have s2 := hrb.cell 2 (v := .slice none 0 0) rfl
    have s3 := hrb.cell 3 (v := .slice none 0 0) rfl
    have s4 := hrb.cell 4 (v := .slice none 0 0) rfl
    have s5 := hrb.cell 5 (v := .int .i64 0) rfl
    have hrl := hrb.lt
    have m0 := htb.cell 0 (v := .int .i64 eye) rfl
    have m1 := htb.cell 1 (v := .int .i64 bull) rfl
    have m2 := htb.cell 2 (v := .slice ra rings.length rc) rfl
    have m3 := htb.cell 3 (v := .slice la lines.length lc) rfl
    have m4 := htb.cell 4 (v := .slice na nums.length nc) rfl
    have m5 := htb.cell 5 (v := .int .i64 wire) rfl
    have hml := htb.lt
    clear hrb htb
    go_wp2
    obtain ⟨W2, hW2, hB2, hX2⟩ := set6_pack HX4.out (n := w.heap.size + 1) (by omega) HR4.out (.int .i64 eye) (.int .i64 bull) (.slice ra rings.length rc) (.slice la lines.length lc) (.slice na nums.length nc) (.int .i64 wire)
    rw [hW2]
    have d0 := hB2.cell 0 (v := .int .i64 eye) rfl
    have d1 := hB2.cell 1 (v := .int .i64 bull) rfl
    have d2 := hB2.cell 2 (v := .slice ra rings.length rc) rfl
    have d3 := hB2.cell 3 (v := .slice la lines.length lc) rfl
    have d4 := hB2.cell 4 (v := .slice na nums.length nc) rfl
    have d5 := hB2.cell 5 (v := .int .i64 wire) rfl
    refine bodyPost_ret (v := .tuple #[.agg #[.int .i64 eye, .int .i64 bull, .slice ra rings.length rc, .slice la lines.length lc, .slice na nums.length nc, .int .i64 wire], .int .i64 2]) (by simp [results, Tryz.results30, go_sem, d0, d1, d2, d3, d4, d5]) rfl ⟨rfl, hX2⟩
  have e : r = 0 := by rw [HR0.out]; unfold formB; rw [HD1.out, ha, hb, hc]; rfl
  subst e
  have hrb := HR4.out
  have htb := HT4.out
  have r0 := hrb.frozen 0
  have r1 := hrb.frozen 1
  have r2 := hrb.frozen 2
  have r3 := hrb.frozen 3
  have r4 := hrb.frozen 4
  have r5 := hrb.frozen 5
  have s0 := hrb.cell 0 (v := .int .i64 0) rfl
  have s1 := hrb.cell 1 (v := .int .i64 0) rfl
  have s2 := hrb.cell 2 (v := .slice none 0 0) rfl
  have s3 := hrb.cell 3 (v := .slice none 0 0) rfl
  have s4 := hrb.cell 4 (v := .slice none 0 0) rfl
  have s5 := hrb.cell 5 (v := .int .i64 0) rfl
  have hrl := hrb.lt
  have m0 := htb.cell 0 (v := .int .i64 eye) rfl
  have m1 := htb.cell 1 (v := .int .i64 bull) rfl
  have m2 := htb.cell 2 (v := .slice ra rings.length rc) rfl
  have m3 := htb.cell 3 (v := .slice la lines.length lc) rfl
  have m4 := htb.cell 4 (v := .slice na nums.length nc) rfl
  have m5 := htb.cell 5 (v := .int .i64 wire) rfl
  have hml := htb.lt
  clear hrb htb
  go_wp2
  obtain ⟨W2, hW2, hB2, hX2⟩ := set6_pack HX4.out (n := w.heap.size + 1) (by omega) HR4.out (.int .i64 eye) (.int .i64 bull) (.slice ra rings.length rc) (.slice la lines.length lc) (.slice na nums.length nc) (.int .i64 wire)
  rw [hW2]
  have d0 := hB2.cell 0 (v := .int .i64 eye) rfl
  have d1 := hB2.cell 1 (v := .int .i64 bull) rfl
  have d2 := hB2.cell 2 (v := .slice ra rings.length rc) rfl
  have d3 := hB2.cell 3 (v := .slice la lines.length lc) rfl
  have d4 := hB2.cell 4 (v := .slice na nums.length nc) rfl
  have d5 := hB2.cell 5 (v := .int .i64 wire) rfl
  refine bodyPost_ret (v := .tuple #[.agg #[.int .i64 eye, .int .i64 bull, .slice ra rings.length rc, .slice la lines.length lc, .slice na nums.length nc, .int .i64 wire], .int .i64 0]) (by simp [results, Tryz.results30, go_sem, d0, d1, d2, d3, d4, d5]) rfl ⟨rfl, hX2⟩
end Go.Proofs.YtlkbbcfbnbnagaaGreat
