/-
  The reference of chapter 6: Show.
-/
import Derived.Test.YtmopadnkjlodnaaRsm
import Derived.Test.YtmopadnkjlodnaaRas
namespace Go.Proofs.Ytmopadnkjlodnaa
open Go.RowKit Go.BigFrame
attribute [local go_sem] Later.cell Later.frozen
theorem ix0 (a b c d : Int) (W : World) : (Instr.index 86 (.agg #[.int .i64 a, .int .i64 b, .int .i64 c, .int .i64 d]) (.int .i64 0)).run Try.prog W = .ok (.int .i64 a) W := by set_option maxRecDepth 100000 in rfl
theorem ix1 (a b c d : Int) (W : World) : (Instr.index 86 (.agg #[.int .i64 a, .int .i64 b, .int .i64 c, .int .i64 d]) (.int .i64 1)).run Try.prog W = .ok (.int .i64 b) W := by set_option maxRecDepth 100000 in rfl
theorem ix2 (a b c d : Int) (W : World) : (Instr.index 86 (.agg #[.int .i64 a, .int .i64 b, .int .i64 c, .int .i64 d]) (.int .i64 2)).run Try.prog W = .ok (.int .i64 c) W := by set_option maxRecDepth 100000 in rfl
theorem ix3 (a b c d : Int) (W : World) : (Instr.index 86 (.agg #[.int .i64 a, .int .i64 b, .int .i64 c, .int .i64 d]) (.int .i64 3)).run Try.prog W = .ok (.int .i64 d) W := by set_option maxRecDepth 100000 in rfl
attribute [local go_sem] ix0 ix1 ix2 ix3
theorem bstF_succ (num : Vi → Int) (l : List Vi) (k : Nat) (hk : k < l.length) : bstF num (l.take (k + 1)) = stpB num (bstF num (l.take k)) l[k] := by
  unfold bstF
  rw [List.take_succ_eq_append_getElem hk, List.foldl_append]
  rfl
theorem bstF_zero (num : Vi → Int) (l : List Vi) : bstF num (l.take 0) = none := rfl
/-- The best visit so far. -/
def ShwB (w0 w : World) (b2 k7 : Nat) (num : Vi → Int) (l : List Vi) (j : Nat) (n : Value) : Prop :=
  (j = 0 ∧ n = .int .i64 0 ∧ Blk w k7 #[.slice none 0 0, .int .i64 0]) ∨ (0 < j ∧ ∃ b ba bc, bstF num (l.take j) = some b ∧ n = .int .i64 (num b) ∧ Blk w k7 #[.slice ba b.beds.length bc, .int .i64 b.tried] ∧ OwnD w0 b2 (.slice ba b.beds.length bc) b.beds ∧ b ∈ l)
theorem OwnD.at0 {w : World} {base : Nat} {a : Option Addr} {c : Nat} {xs : List Int} (h : OwnD w base (.slice a xs.length c) xs) : CellsAt w .i64 a xs := by
  obtain ⟨a', c', e, h1, -⟩ := (h.rd (S := S0) (fun _ _ h => h)).cells
  cases e
  exact h1
set_option maxRecDepth 100000 in
set_option maxHeartbeats 16000000 in
theorem ref_Show (ls : List (List Vi)) (v : Value) (en : Int) (base b2 : Nat) (w : World) (hen : 1 ≤ en ∧ en ≤ 4) (hv : VRs w base b2 v ls) (hl : ls.length ≤ 1000) (hm : ∀ l ∈ ls, l ≠ [] ∧ l.length ≤ 1000000 ∧ ∀ x ∈ l, x.beds.length ≤ 1000 ∧ (0 ≤ x.tried ∧ x.tried ≤ 1000)) :
    Calls Try.prog 25 #[v, .int .i64 en] w fun e w' => ∃ v', e = .returned v' ∧ WaysAt w' 0 v' (ls.map (shoB en)) ∧ Ext w w' := by
  obtain ⟨va, vc, rfl⟩ := hv.shape
  have HV := Lib.hid hv
  have HM := Lib.hid hm
  have HEN := Lib.hid hen
  clear hv hm hen
  go_enter Try.func25, Try.ntmps25
  go_wp2
  go_loopw [5, 6] (fun f i wr => ∃ (k : Nat) (fv : Value), k ≤ ls.length ∧ fv = f ∧ i = .int .i64 k ∧ (∀ q, fv.ownBlock = some q → w.heap.size ≤ q) ∧ WaysAt wr 0 fv ((ls.take k).map (shoB en)) ∧ Ext w wr) (fun _ i _ => ls.length - (intOf i).toNat)
  case atStart => exact ⟨0, _, Nat.zero_le _, rfl, rfl, fun q hq => by cases hq; exact Nat.le_refl _, ⟨[], own_mono (own_empty rfl (Nat.le_refl _)) (Nat.zero_le _), rfl, fun i hi => absurd hi (by simp)⟩, (Ext.refl w).alloc _⟩
  case round =>
    obtain ⟨k, fv, hk, rfl, rfl, hown, hO, hx⟩ := hrel
    have HOW := Lib.hid hown
    have HO := Lib.hid hO
    have HX := Lib.hid hx
    clear hO hx hown
    obtain ⟨w0, rfl⟩ : ∃ x, x = wr := ⟨_, rfl⟩
    by_cases hlt : k < ls.length
    · obtain ⟨g, cap, a0, la, e, hc, hvl⟩ := (HV.out.ext HX.out).at k hlt
      cases e
      obtain ⟨l, hll⟩ : ∃ l, ls[k] = l := ⟨_, rfl⟩
      rw [hll] at hc hvl
      have HLM : Hid (l ≠ [] ∧ l.length ≤ 1000000 ∧ ∀ x ∈ l, x.beds.length ≤ 1000 ∧ (0 ≤ x.tried ∧ x.tried ≤ 1000)) := Lib.hid (hll ▸ HM.out _ (List.getElem_mem hlt))
      have HTK : Hid ((ls.take (k + 1)).map (shoB en) = (ls.take k).map (shoB en) ++ [shoB en l]) := Lib.hid (by rw [List.take_succ_eq_append_getElem hlt, hll, List.map_append]; rfl)
      have HR := Lib.hid hc
      have HVL := Lib.hid hvl
      clear hll hc hvl
      go_upto_region 6 with fail
      generalize hw5 : World.alloc w0 _ = w5
      obtain ⟨k7, hk7⟩ : ∃ y, y = w0.heap.size := ⟨_, rfl⟩
      rw [← hk7]
      have HB5 : Hid (Blk w5 k7 #[.slice none 0 0, .int .i64 0]) := Lib.hid (by rw [← hw5, hk7]; exact Blk.new _ _ _)
      have HX5 : Hid (Ext w0 w5) := Lib.hid (by rw [← hw5]; exact (Ext.refl w0).alloc _)
      have HK7 := Lib.hid hk7
      clear hw5 hk7
      go_wp2
      go_loopw [8, 9] (fun n i wq => ∃ (j : Nat) (nv : Value), j ≤ l.length ∧ nv = n ∧ i = .int .i64 j ∧ ShwB w0 wq b2 k7 (numE en) l j nv ∧ Chg (· = k7) w5 wq) (fun _ i _ => l.length - (intOf i).toNat)
      case atStart => exact ⟨0, _, Nat.zero_le _, rfl, rfl, .inl ⟨rfl, rfl, HB5.out⟩, Chg.refl _ _⟩
      case round =>
        obtain ⟨j, nv, hj, rfl, rfl, hsb, hch⟩ := hrel
        obtain ⟨w6, rfl⟩ : ∃ x, x = wr := ⟨_, rfl⟩
        have HSB := Lib.hid hsb
        have HCH := Lib.hid hch
        have HX6 : Hid (Ext w0 w6) := Lib.hid (Chg.to_ext HX5.out hch (fun i h => by have h1 := HK7.out; have h' : i = k7 := h; omega))
        have c0 := HX6.out.cell HR.out
        have cl := lt_of_cell c0
        simp only at cl
        clear hsb hch
        by_cases hjt : j < l.length
        · obtain ⟨g2, cap2, ba, bc, e2, h1, h2, hbd⟩ := HVL.out.at j hjt
          cases e2
          have HNX := Lib.hid (bstF_succ (numE en) l j hjt)
          obtain ⟨x, hxe⟩ : ∃ x, l[j] = x := ⟨_, rfl⟩
          have HXM : Hid (x ∈ l) := Lib.hid (hxe ▸ List.getElem_mem hjt)
          rw [hxe] at h1 h2 hbd HNX
          have d0 := HX6.out.cell h1
          have d1 := HX6.out.cell h2
          have dl := lt_of_cell d0
          simp only at dl
          have HBD0 := Lib.hid hbd
          have HBD := Lib.hid (OwnD.ext hbd HX6.out)
          clear hxe h1 h2 hbd
          go_upto_region 10 with fail
          generalize hw7 : World.alloc w6 _ = w7
          obtain ⟨k10, hk10⟩ : ∃ y, y = w6.heap.size := ⟨_, rfl⟩
          rw [← hk10]
          have HB7 : Hid (Blk w7 k10 #[.slice ba x.beds.length bc, .int .i64 x.tried]) := Lib.hid (by rw [← hw7, hk10]; exact Blk.new _ _ _)
          have HX7 : Hid (Ext w6 w7) := Lib.hid (by rw [← hw7]; exact (Ext.refl w6).alloc _)
          have HK10 := Lib.hid hk10
          clear hw7 hk10 c0 cl d0 d1 dl
          obtain ⟨hxb, hxt⟩ := (HLM.out.2.2 x HXM.out)
          have e0 := HB7.out.cell 0 (v := .slice ba x.beds.length bc) rfl
          have e1 := HB7.out.cell 1 (v := .int .i64 x.tried) rfl
          have el := HB7.out.lt
          go_cut [11] (fun n wx => n = .int .i64 (numE en x) ∧ wx = w7)
          case first =>
            have hw1 : wrap64 (-(x.beds.length : Int)) = -(x.beds.length : Int) := wrap64_in' ⟨by omega, by omega⟩
            have hw2 : wrap64 (-x.tried) = -x.tried := wrap64_in' ⟨by omega, by omega⟩
            obtain rfl | rfl | rfl | rfl : en = 1 ∨ en = 2 ∨ en = 3 ∨ en = 4 := by have := HEN.out; omega
            · go_wp2
              go_wp2
              go_meet
              exact ⟨rfl, rfl⟩
            · go_wp2
              go_wp2
              go_meet
              exact ⟨rfl, rfl⟩
            · go_wp2
              go_wp2
              go_meet
              exact ⟨rfl, rfl⟩
            · go_wp2
              go_wp2
              go_meet
              exact ⟨rfl, rfl⟩
          obtain ⟨hc1, hc2⟩ := hcut
          subst hc1
          subst hc2
          rename World => w7
          clear e0 e1 el
          obtain ⟨hj0, rfl, hbk⟩ | ⟨hj0, b, ba2, bc2, hbf, rfl, hbk, hbo, hbm⟩ := HSB.out
          · subst hj0
            have HBK := Lib.hid (hbk.ext HX7.out)
            have e0 := HB7.out.cell 0 (v := .slice ba x.beds.length bc) rfl
            have e1 := HB7.out.cell 1 (v := .int .i64 x.tried) rfl
            have el := HB7.out.lt
            clear hbk HSB
            go_upto_region 12 with fail
            have z0 := HBK.out.cell 0 (v := _) rfl
            have z1 := HBK.out.cell 1 (v := _) rfl
            have y0 := HBK.out.frozen 0
            have y1 := HBK.out.frozen 1
            have yl := HBK.out.lt
            have HS9 := Lib.hid (two_set HBK.out (.slice ba x.beds.length bc) (.int .i64 x.tried))
            have HC9 := Lib.hid ((HCH.out.trans (HX7.out.chg (· = k7))).trans (two_chg (· = k7) w7 rfl (.slice ba x.beds.length bc) (.int .i64 x.tried)))
            have HBN : Hid (bstF (numE en) (l.take (0 + 1)) = some x) := Lib.hid (by rw [HNX.out]; rfl)
            go_wp2
            go_roundw
            case rel => exact ⟨0 + 1, _, by omega, rfl, by go_num, .inr ⟨by omega, x, ba, bc, HBN.out, rfl, HS9.out, HBD0.out, HXM.out⟩, HC9.out⟩
            case measure => simp [intOf]; omega

          · have hj1 : ¬ ((j : Int) = 0) := by omega
            have hj2 : ((j : Int) == 0) = false := by simpa using hj1
            have hlb := HLM.out.2.1
            have HBK := Lib.hid (hbk.ext HX7.out)
            have HBF := Lib.hid hbf
            have HBM := Lib.hid hbm
            have HBO0 := Lib.hid hbo
            have HCX := Lib.hid (HBD.out.ext HX7.out).at0
            have HCB := Lib.hid ((hbo.ext HX6.out).ext HX7.out).at0
            obtain ⟨hbb, hbt⟩ := (HLM.out.2.2 b hbm)
            obtain ⟨T, hT⟩ : ∃ T, betB (numE en) x b = T := ⟨_, rfl⟩
            have HT := Lib.hid hT
            clear hT hbk hbf hbm hbo HSB
            have e0 := HB7.out.cell 0 (v := .slice ba x.beds.length bc) rfl
            have el := HB7.out.lt
            have f0 := HBK.out.cell 0 (v := .slice ba2 b.beds.length bc2) rfl
            have fl := HBK.out.lt
            obtain ⟨n1, hn1⟩ : ∃ n, numE en x = n := ⟨_, rfl⟩
            obtain ⟨n2, hn2⟩ : ∃ n, numE en b = n := ⟨_, rfl⟩
            have HTB : Hid (T = (decide (n1 < n2) || (decide (n1 = n2) && (decide (x.beds.length < b.beds.length) || (decide (x.beds.length = b.beds.length) && smlB x.beds b.beds))))) := Lib.hid (by rw [← HT.out, ← hn1, ← hn2]; rfl)
            rw [hn1, hn2]
            have HN1 := Lib.hid hn1
            have HN2 := Lib.hid hn2
            clear hn1 hn2
            go_upto_region 11 with fail
            go_cut [88] (fun v wx => v = .bool T ∧ Ext w7 wx)
            case first =>
              by_cases h1 : n1 < n2
              · obtain rfl : T = true := by rw [HTB.out, decide_eq_true h1]; rfl
                go_wp2
                go_meet
                exact ⟨rfl, Ext.refl _⟩
              · by_cases h2 : n1 = n2
                · subst h2
                  by_cases h3 : x.beds.length < b.beds.length
                  · obtain rfl : T = true := by rw [HTB.out, decide_eq_true h3]; simp
                    have h3' : (x.beds.length : Int) < (b.beds.length : Int) := by omega
                    go_wp2
                    go_meet
                    exact ⟨rfl, Ext.refl _⟩
                  · have h3' : ¬ (x.beds.length : Int) < (b.beds.length : Int) := by omega
                    by_cases h4 : x.beds.length = b.beds.length
                    · obtain rfl : T = smlB x.beds b.beds := by rw [HTB.out, decide_eq_false h3, decide_eq_true h4]; simp
                      have hsm := ref_smaller x.beds b.beds ba ba2 bc bc2 w7 HCX.out HCB.out (by omega) (by omega)
                      obtain ⟨xl, hxl⟩ : ∃ y, x.beds.length = y := ⟨_, rfl⟩
                      have hbl : b.beds.length = xl := by omega
                      rw [hxl, hbl] at hsm
                      rw [hxl] at e0
                      rw [hbl] at f0
                      have HSM := Lib.hid hsm
                      clear hsm h3 h3' h4 hbl hxl hxb hbb
                      go_wp2_with fail
                      refine HSM.out.mono ?_
                      rintro e w8 ⟨rfl, hx8⟩
                      have HX8 := Lib.hid hx8
                      clear hx8
                      go_wp2
                      go_meet
                      exact ⟨rfl, HX8.out⟩
                    · obtain rfl : T = false := by rw [HTB.out, decide_eq_false h3, decide_eq_false h4, decide_eq_false h1]; simp
                      have h4' : ((x.beds.length : Int) == (b.beds.length : Int)) = false := by simpa using (by omega : ¬ (x.beds.length : Int) = (b.beds.length : Int))
                      go_wp2
                      go_meet
                      exact ⟨rfl, Ext.refl _⟩
                · obtain rfl : T = false := by rw [HTB.out, decide_eq_false h1, decide_eq_false h2]; rfl
                  have h2' : (n1 == n2) = false := by simpa using h2
                  go_wp2
                  go_meet
                  exact ⟨rfl, Ext.refl _⟩
            case rest =>
              obtain ⟨hc1, hx8⟩ := hcut
              subst hc1
              obtain ⟨w8, rfl⟩ : ∃ x, x = wc := ⟨_, rfl⟩
              have HX8 := Lib.hid hx8
              have HX68 := Lib.hid (HX7.out.trans hx8)
              clear hx8 e0 el f0 fl
              have HBK8 := Lib.hid (HBK.out.ext HX8.out)
              cases T
              case true =>
                have e0 := (HB7.out.ext HX8.out).cell 0 (v := .slice ba x.beds.length bc) rfl
                have e1 := (HB7.out.ext HX8.out).cell 1 (v := .int .i64 x.tried) rfl
                have el := (HB7.out.ext HX8.out).lt
                rw [← HN1.out]
                have z0 := HBK8.out.cell 0 (v := _) rfl
                have z1 := HBK8.out.cell 1 (v := _) rfl
                have y0 := HBK8.out.frozen 0
                have y1 := HBK8.out.frozen 1
                have yl := HBK8.out.lt
                have HS9 := Lib.hid (two_set HBK8.out (.slice ba x.beds.length bc) (.int .i64 x.tried))
                have HC9 := Lib.hid ((HCH.out.trans (HX68.out.chg (· = k7))).trans (two_chg (· = k7) w8 rfl (.slice ba x.beds.length bc) (.int .i64 x.tried)))
                have HBN : Hid (bstF (numE en) (l.take (j + 1)) = some x) := Lib.hid (by rw [HNX.out, HBF.out]; show (if betB _ x b = true then _ else _) = _; rw [if_pos HT.out])
                go_wp2
                go_roundw
                case rel => exact ⟨j + 1, _, by omega, rfl, by go_num, .inr ⟨by omega, x, ba, bc, HBN.out, rfl, HS9.out, HBD0.out, HXM.out⟩, HC9.out⟩
                case measure => simp [intOf]; omega
              case false =>
                have HBN : Hid (bstF (numE en) (l.take (j + 1)) = some b) := Lib.hid (by rw [HNX.out, HBF.out]; show (if betB _ x b = true then _ else _) = _; rw [if_neg (by rw [HT.out]; decide)])
                have HCH8 := Lib.hid (HCH.out.trans (HX68.out.chg (· = k7)))
                go_wp2
                go_roundw
                case rel => exact ⟨j + 1, _, by omega, rfl, by go_num, .inr ⟨by omega, b, ba2, bc2, HBN.out, by rw [HN2.out], HBK8.out, HBO0.out, HBM.out⟩, HCH8.out⟩
                case measure => simp [intOf]; omega
        · obtain rfl : j = l.length := by omega
          obtain ⟨h, -⟩ | ⟨hj0, b, ba2, bc2, hbf, rfl, hbk, hbo, hbm⟩ := HSB.out
          · exact absurd (List.length_eq_zero_iff.1 h) HLM.out.1
          have HSE : Hid (shoB en l = b.beds) := Lib.hid (by unfold shoB; rw [List.take_length] at hbf; rw [hbf]; rfl)
          obtain ⟨hbb, hbt⟩ := (HLM.out.2.2 b hbm)
          have HBO := Lib.hid (hbo.ext HX6.out)
          have g0 := hbk.cell 0 (v := .slice ba2 b.beds.length bc2) rfl
          have gl := hbk.lt
          obtain ⟨vals, hv1, hv2, hv3⟩ := (HO.out.ext HX6.out).ext ((Ext.refl w6).alloc (.cells #[.slice ba2 b.beds.length bc2] 25))
          rw [List.length_map, List.length_take, Nat.min_eq_left hk] at hv1 hv2
          have HV1 := Lib.hid hv1
          have HV2 := Lib.hid hv2
          have HV3 := Lib.hid hv3
          clear hbk hbo hbf hbm hv1 hv2 hv3 HSB
          go_wp2_with (at_builtin; refine wp_append_from rfl _ _ 46 25 _ 1 24 rfl info_beds (by kernel_rfl) rfl (by decide) 0 fv k vals rfl HV1.out (some ⟨w6.heap.size, 0, none⟩) 1 1 [.slice ba2 b.beds.length bc2] rfl (fun h => by cases h) rfl ?_ ?_ (by omega) (by omega) (Nat.zero_le _) ?_)
          · intro ad had j u hj
            cases had
            match j, hj with
            | 0, hj => cases hj; rw [addr_add]; exact (Blk.new w6 _ _).cell 0 rfl
          · intro u hu
            cases hu with
            | head => rfl
            | tail _ h => cases h
          intro v8 w8 hO8 hg8 hn8
          have HROW : Hid (WaysAt w8 0 v8 ((ls.take k).map (shoB en) ++ [b.beds])) := Lib.hid (WaysAt.snoc (by rw [List.length_map, List.length_take, Nat.min_eq_left hk]; exact HV1.out) (by rw [List.length_map, List.length_take, Nat.min_eq_left hk]; exact HV2.out) HV3.out (OwnD.ext (own_mono HBO.out (Nat.zero_le _)) ((Ext.refl w6).alloc _)) (by rw [List.length_map, List.length_take, Nat.min_eq_left hk]; exact hO8) hg8)
          have hch8 : Chg (fun q => fv.ownBlock = some q) w6 w8 := (((Ext.refl w6).alloc (.cells #[.slice ba2 b.beds.length bc2] 25)).chg _).trans hg8
          have HX8 : Hid (Ext w w8) := Lib.hid (Chg.to_ext (HX.out.trans HX6.out) hch8 (fun i hi => HOW.out i hi))
          have HOW8 : Hid (∀ q, v8.ownBlock = some q → w.heap.size ≤ q) := Lib.hid (fun q hq => by
            rcases hn8 q hq with h | h
            · exact HOW.out q h
            · have h1 := (HX.out.trans HX6.out).size
              have h2 := h.1
              have h3 := ((Ext.refl w6).alloc (.cells #[.slice ba2 b.beds.length bc2] 25)).size
              omega)
          obtain ⟨ga8, gc8, rfl⟩ := HROW.out.shape
          clear hO8 hg8 hn8 hch8 g0 gl
          go_wp2
          go_roundw
          case rel => exact ⟨k + 1, _, by omega, rfl, by go_num, HOW8.out, by rw [HTK.out, HSE.out]; exact HROW.out, HX8.out⟩
          case measure => simp [intOf]; omega
    · obtain rfl : k = ls.length := by omega
      obtain ⟨ga, gc, hge⟩ := HO.out.shape
      have HO' := Lib.hid (by have h := HO.out; rw [List.take_length] at h; exact h)
      clear HO
      subst hge
      go_wp2
      go_ret
      exact ⟨_, rfl, HO'.out, HX.out⟩
end Go.Proofs.Ytmopadnkjlodnaa
