/-
  The reference's Judge.
-/
import Derived.Test.YtocnglplhnhllaaRfq
import Derived.Test.YtocnglplhnhllaaStq
import Derived.Test.YtocnglplhnhllaaJud
import Derived.Test.YtocnglplhnhllaaKep
namespace Go.Proofs.Ytocnglplhnhllaa
open Go.RowKit Go.BigFrame
attribute [local go_sem] Later.cell Later.frozen Lat.cell Lat.frozen
theorem wp_append_f_at {w : World} {ops : Array Oper} {rest : List Oper} {o : Oper} {a : Act} {Q : Exit → Act → World → Prop} (hgd : o.guard = none) (s x : Operand)
    (ho : o.op = .call { callee := .builtin .append, args := #[s, x], argTypes := #[57, 57] }) (base : Nat) (v : Value) (xs : List Flt) (hs : a.eval s = v) (hown : OwnF w base v xs) (k c : Nat) (f : Flt)
    (hx : a.eval x = .slice (some ⟨k, 0, none⟩) 1 c) (hn : ∀ j u, [Value.int .i64 f.visit, .int .i64 f.dart, .int .i64 f.err][j]? = some u → w.cell? ⟨k, j, none⟩ = some u) (hlen : xs.length ≤ 1000000000000) (hbase : base ≤ w.heap.size)
    (h : ∀ v' w', OwnF w' base v' (xs ++ [f]) → w.grownBy w' v.ownBlock → (v'.ownBlock = v.ownBlock ∨ v'.ownBlock = some w.heap.size) → wpList Try.prog ops Q rest (a.put o.dst v') w') : wpList Try.prog ops Q (o :: rest) a w := by
  obtain ⟨i0, hi, hz0, hz1, hz2⟩ := info_parts info_flt
  refine wpList_append_own_at w hgd s x 57 ho base 61 i0 (.agg #[.int .i64 0, .int .i64 0, .int .i64 0]) 3 24 (by kernel_rfl) hi hz0 hz1 hz2 rfl (by decide) v xs.length _ hs hown ⟨k, 0, none⟩ 1 c f.cells hx rfl ?_ ?_ (by unfold maxLen; omega) (by omega) hbase ?_
  · intro j u hj
    have hadd : (⟨k, 0, none⟩ : Addr).add j = ⟨k, j, none⟩ := by unfold Addr.add; split <;> simp_all
    rw [hadd]
    exact hn j u hj
  · intro u hu; simp [Flt.cells] at hu; rcases hu with rfl | rfl | rfl <;> rfl
  · intro v' w' ho' hg _ hat
    refine h v' w' ?_ hg hat
    unfold OwnF
    simpa using ho'
/-- What the reference's Judge returns. -/
def RJudP (w0 : World) (S : Gm × List Flt × Int) (e : Ending) (w' : World) : Prop := ∃ v f, e = .returned (.tuple #[v, f, .int .i64 S.2.2]) ∧ Reads3 w' S.1 v ∧ OwnF w' w0.heap.size f S.2.1 ∧ Ext w0 w'
set_option maxRecDepth 100000 in
set_option maxHeartbeats 4000000 in
theorem ref_Judge (r : Rul) (ca : Option Addr) (cc : Nat) (l : List LV) (la : Option Addr) (lc : Nat) (w : World) (hC : CntsAt w ca r.counts) (hl : r.counts.length ≤ 9223372036854775807) (hV : VisAt w la l) (hf : ∀ v ∈ l, v.fits) (hll : l.length ≤ 9223372036854775807)
    (S : Gm × List Flt × Int) (hS : judS r l = S) :
    Calls Try.prog 28 #[.agg #[.slice ca r.counts.length cc, .int .i64 r.first, .int .i64 r.rounds, .bool r.equal], .slice la l.length lc] w (RJudP w S) := by
  have HS := Lib.hid hS
  have HC := Lib.hid hC
  have HV := Lib.hid hV
  have HF := Lib.hid hf
  clear hS hC hV hf
  go_enter Try.func28, Try.ntmps28
  go_wp2_with fail
  refine (ref_Rules r ca cc _ (HC.out.ext (by exact ((Ext.refl w).alloc _).alloc _)) hl).mono ?_
  rintro e w1 ⟨rfl, hx1⟩
  have hA1 : Blk w1 w.heap.size #[.slice ca r.counts.length cc, .int .i64 r.first, .int .i64 r.rounds, .bool r.equal] := ((Blk.new w _ _).alloc _).ext hx1
  have hZ1 : Blk w1 (w.heap.size + 1) #[.slice none 0 0, .slice none 0 0, .slice none 0 0, .int .i64 0, .int .i64 0, .bool false, .slice none 0 0] := (Blk.at _ (by simp)).ext hx1
  have hE1 := (((Ext.refl w).alloc (.cells #[.slice ca r.counts.length cc, .int .i64 r.first, .int .i64 r.rounds, .bool r.equal] 42)).alloc (.cells #[.slice none 0 0, .slice none 0 0, .slice none 0 0, .int .i64 0, .int .i64 0, .bool false, .slice none 0 0] 51)).trans hx1
  have HA1 := Lib.hid hA1
  have HZ1 := Lib.hid hZ1
  clear hx1 hA1 hZ1
  have hsz1 := HZ1.out.lt
  cases hok : r.ok
  · have HOK := Lib.hid hok
    clear hok
    obtain ⟨⟨z0, z1, z2, z3, z4, z5, z6⟩, zs, f0, f1, f2, f3, f4, f5, f6⟩ := HZ1.out.seven
    go_wp2
    generalize hW : World.setCell _ _ _ = W
    have hchg := seven_chg (· = w.heap.size + 1) w1 rfl (.slice none 0 0) (.slice none 0 0) (.slice none 0 0) (.int .i64 0) (.int .i64 0) (.bool false) (.slice none 0 0)
    have hB := seven_set HZ1.out (.slice none 0 0) (.slice none 0 0) (.slice none 0 0) (.int .i64 0) (.int .i64 0) (.bool false) (.slice none 0 0)
    rw [hW] at hchg hB
    obtain ⟨⟨q0, q1, q2, q3, q4, q5, q6⟩, _⟩ := hB.seven
    refine bodyPost_ret (v := .tuple #[.agg #[.slice none 0 0, .slice none 0 0, .slice none 0 0, .int .i64 0, .int .i64 0, .bool false, .slice none 0 0], .slice none 0 0, .int .i64 2]) (by simp [results, Try.results28, go_sem, q0, q1, q2, q3, q4, q5, q6]) rfl ?_
    have hTS : S = (.zero, [], 2) := by
      rw [← HS.out]; unfold judS; rw [newE_bad HOK.out]; rfl
    rw [hTS]
    exact ⟨_, _, rfl, zero_reads W, OwnF.nil _ _, Chg.to_ext hE1 hchg (by rintro i rfl; omega)⟩
  · by_cases hlong : 2000 < l.length
    · have HOK := Lib.hid hok
      have HLG := Lib.hid hlong
      clear hok
      obtain ⟨⟨z0, z1, z2, z3, z4, z5, z6⟩, zs, f0, f1, f2, f3, f4, f5, f6⟩ := HZ1.out.seven
      go_wp2
      generalize hW : World.setCell _ _ _ = W
      have hchg := seven_chg (· = w.heap.size + 1) w1 rfl (.slice none 0 0) (.slice none 0 0) (.slice none 0 0) (.int .i64 0) (.int .i64 0) (.bool false) (.slice none 0 0)
      have hB := seven_set HZ1.out (.slice none 0 0) (.slice none 0 0) (.slice none 0 0) (.int .i64 0) (.int .i64 0) (.bool false) (.slice none 0 0)
      rw [hW] at hchg hB
      obtain ⟨⟨q0, q1, q2, q3, q4, q5, q6⟩, _⟩ := hB.seven
      refine bodyPost_ret (v := .tuple #[.agg #[.slice none 0 0, .slice none 0 0, .slice none 0 0, .int .i64 0, .int .i64 0, .bool false, .slice none 0 0], .slice none 0 0, .int .i64 5]) (by simp [results, Try.results28, go_sem, q0, q1, q2, q3, q4, q5, q6]) rfl ?_
      have hTS : S = (.zero, [], 5) := by
        rw [← HS.out]; unfold judS; rw [newE_long HOK.out HLG.out]; rfl
      rw [hTS]
      exact ⟨_, _, rfl, zero_reads W, OwnF.nil _ _, Chg.to_ext hE1 hchg (by rintro i rfl; omega)⟩
    · have HOK := Lib.hid hok
      have hne : newE r l.length = 0 := newE_ok hok (by omega)
      have HNE := Lib.hid hne
      clear hok hne
      have hlen := Rul.ok_length HOK.out
      obtain ⟨m0, m1, m2, m3⟩ : w1.cell? ⟨w.heap.size, 0, none⟩ = some (.slice ca r.counts.length cc) ∧ w1.cell? ⟨w.heap.size, 1, none⟩ = some (.int .i64 r.first) ∧ w1.cell? ⟨w.heap.size, 2, none⟩ = some (.int .i64 r.rounds) ∧ w1.cell? ⟨w.heap.size, 3, none⟩ = some (.bool r.equal) := ⟨HA1.out.cell 0 rfl, HA1.out.cell 1 rfl, HA1.out.cell 2 rfl, HA1.out.cell 3 rfl⟩
      go_wp2_with fail
      refine (ref_Begin r ca cc w1 (HC.out.ext hE1) hlen.2).mono ?_
      rintro e w2 ⟨lv, dv, iv, rfl, hL2, hD2, hI2, hx2⟩
      have hA2 := HA1.out.ext hx2
      have hZ2 := HZ1.out.ext hx2
      have hE2 := hE1.trans hx2
      have o1 := own_lt (hL2 : w2.ownsRow _ _ _ _ _ _)
      have o2 := own_lt (hD2 : w2.ownsRow _ _ _ _ _ _)
      have o3 := own_lt (hI2 : w2.ownsRow _ _ _ _ _ _)
      obtain ⟨la2, lc2, rfl, hl2⟩ := hL2.cells
      obtain ⟨da2, dc2, rfl, hd2⟩ := hD2.cells
      obtain ⟨ia2, ic2, rfl, hi2⟩ := hI2.cells
      have hn1 : (Gm.begin r).left.length = r.counts.length := by simp [Gm.begin]
      have hn2 : (Gm.begin r).darts.length = r.counts.length := by simp [Gm.begin]
      have hn3 : (Gm.begin r).inn.length = r.counts.length := by simp [Gm.begin]
      have hR2 : RefAt w2 (.agg (legL (.slice la2 r.counts.length lc2) (.slice da2 r.counts.length dc2) (.slice ia2 r.counts.length ic2) r.first 0 false (.slice none 0 0) (.slice none 0 0) [0, 0, 0, 0, 0, 0, 0, 0] 0)) r (Gm.begin r) 0 :=
        RefAt.mk2 (g := Gm.begin r) hn1 hn2 hn3 (by omega) hl2 hd2 hi2 (CellsAt.nil _ _ _) (CellsAt.nil _ _ _) (fun _ => ⟨rfl, rfl⟩) (beginI r)
      have hV2 : ∀ j, (j < w1.heap.size ∨ w2.heap.size ≤ j) → Avd (.agg (legL (.slice la2 r.counts.length lc2) (.slice da2 r.counts.length dc2) (.slice ia2 r.counts.length ic2) r.first 0 false (.slice none 0 0) (.slice none 0 0) [0, 0, 0, 0, 0, 0, 0, 0] 0)) j := fun j hj =>
        Avd.mk (fun a e => by have := o1 a.block (by rw [e]; rfl); omega) (fun a e => by have := o2 a.block (by rw [e]; rfl); omega) (fun a e => by have := o3 a.block (by rw [e]; rfl); omega) (fun a e => by cases e) (fun a e => by cases e)
      rw [hn1, hn2, hn3]
      have HR2 := Lib.hid hR2
      have HV2 := Lib.hid hV2
      have HA2 := Lib.hid hA2
      have HZ2 := Lib.hid hZ2
      have hsz2 := hx2.size
      clear hL2 hD2 hI2 hl2 hd2 hi2 hn1 hn2 hn3 o1 o2 o3 hR2 hV2 hA2 hZ2 hx2 HA1 HZ1 hE1 m0 m1 m2 m3
      go_wp2_with (first | (refine wp_store_leg rfl _ _ rfl (w2.heap.size + 1) rfl _ rfl leg17 (by exact Blk.at _ (by simp)) rfl rfl (by simp [legC, Value.oneCell']) ?_; intro W3 hB3 hC3))
      have hX3 : Ext w2 W3 := Chg.to_ext (((Ext.refl w2).alloc _).alloc _) hC3 (by rintro i rfl; omega)
      have hF3 : OwnF W3 w2.heap.size (.slice (some ⟨w2.heap.size, 0, none⟩) 0 0) [] := ((show OwnF (w2.alloc (.cells #[] 61)) w2.heap.size (.slice (some ⟨w2.heap.size, 0, none⟩) 0 0) [] from own_empty rfl (Nat.le_refl _)).ext ((Ext.refl _).alloc _)).chg hC3 (fun j e e2 => by have := own_blk e; omega)
      have HF3 := Lib.hid hF3
      have hAF : ∀ j, w2.heap.size = j → Avd (.agg (legL (.slice la2 r.counts.length lc2) (.slice da2 r.counts.length dc2) (.slice ia2 r.counts.length ic2) r.first 0 false (.slice none 0 0) (.slice none 0 0) [0, 0, 0, 0, 0, 0, 0, 0] 0)) j := fun j e => HV2.out j (.inr (by omega))
      have HAF := Lib.hid hAF
      clear hAF
      have hLV : LegV W3 (w.heap.size + 1) (w2.heap.size + 1) (legL (.slice la2 r.counts.length lc2) (.slice da2 r.counts.length dc2) (.slice ia2 r.counts.length ic2) r.first 0 false (.slice none 0 0) (.slice none 0 0) [0, 0, 0, 0, 0, 0, 0, 0] 0) r (Gm.begin r) 0 := ⟨hB3, rfl, legL_one .., HR2.out.ext hX3, fun j hj => HV2.out j (by have := hX3.size; omega)⟩
      have HLV := Lib.hid hLV
      have HA3 := Lib.hid (HA2.out.ext hX3)
      have HZ3 := Lib.hid (HZ2.out.ext hX3)
      have hE3 := hE2.trans hX3
      have hsz3 := hX3.size
      clear hB3 hC3 hLV hX3 HR2 HV2 HA2 HZ2 hE2 hF3
      have hS0 : judE (judL r (.begin r) 0 l []) = S := by rw [← HS.out]; unfold judS; rw [if_neg (by rw [HNE.out]; simp)]
      have HS0 := Lib.hid hS0
      clear hS0 HS HNE
      go_wp2
      generalize hb7 : (w2.heap.size + 1) = b7 at *
      have hb7l : w.heap.size + 1 < b7 := by omega
      have hb72 : w.heap.size + 1 < w2.heap.size ∧ w2.heap.size < b7 := by omega
      go_loopw [8, 9] (fun fv i wr => ∃ (k : Nat) (g : Gm) (cs : Array Value) (fs : List Flt), k ≤ l.length ∧ i = .int .i64 k ∧ LegV wr (w.heap.size + 1) b7 cs r g k ∧ g.Ok r k ∧ fs.length ≤ k ∧ OwnF wr w2.heap.size fv fs ∧ (∀ j, fv.ownBlock = some j → j ≠ b7 ∧ Avd (.agg cs) j) ∧ judE (judL r g k (l.drop k) fs) = S ∧ Blk wr w.heap.size #[.slice ca r.counts.length cc, .int .i64 r.first, .int .i64 r.rounds, .bool r.equal] ∧ Blk wr (w.heap.size + 1) #[.slice none 0 0, .slice none 0 0, .slice none 0 0, .int .i64 0, .int .i64 0, .bool false, .slice none 0 0] ∧ Ext w wr) (fun _ i _ => l.length - (intOf i).toNat)
      case atStart => exact ⟨0, Gm.begin r, _, [], Nat.zero_le _, rfl, HLV.out, Gm.Ok.begin HOK.out, Nat.le_refl _, HF3.out, fun j e => by have := own_blk e; exact ⟨by omega, HAF.out j this⟩, HS0.out, HA3.out, HZ3.out, hE3⟩
      case round =>
        obtain ⟨k, g, cs, fs, hk, rfl, hLV, hI, hfl, hOF, hoa, hS, hA, hZ, hx⟩ := hrel
        have HLV2 := Lib.hid hLV
        have HIk := Lib.hid hI
        have HSk := Lib.hid hS
        have HAk := Lib.hid hA
        have HZk := Lib.hid hZ
        have hb7w := hLV.blk.lt
        clear hLV hI hS hA hZ HLV HS0 HA3 HZ3 hE3
        by_cases hlt : k < l.length
        · have hk2 : k ≤ 3000 := by omega
          obtain ⟨vb, vo, ba, bc, rfl, p0, p1, hbe⟩ := HV.out k hlt
          replace p0 := hx.cell p0
          replace p1 := hx.cell p1
          obtain ⟨-, hbi, hbl⟩ := HF.out _ (List.getElem_mem hlt)
          have hpl := lt_of_cell p0
          have hdrop : l.drop k = l[k] :: l.drop (k + 1) := by simp
          have hS1 := HSk.out
          rw [hdrop] at hS1
          unfold judL at hS1
          have HS1 := Lib.hid hS1
          have HBE := Lib.hid (hbe.ext hx)
          have HBI := Lib.hid hbi
          clear hS1 HSk hdrop hbe hbi
          have hOk1 := HIk.out.step l[k].player l[k].beds
          have hD := fun W (hW : Ext wr W) => ref_Step r g (.agg cs) k ca cc l[k].player l[k].beds ba bc W HOK.out (HLV2.out.ref.ext hW) HIk.out hk2 (HC.out.ext (hx.trans hW)) (HBE.out.ext hW) HBI.out hbl _ rfl
          have hbad := step_bad (r := r) (g := g) (p := l[k].player) (beds := l[k].beds)
          generalize g.step r l[k].player l[k].beds = T at *
          obtain ⟨g', at0, er⟩ := T
          have HOk1 := Lib.hid hOk1
          have HD := Lib.hid hD
          clear hOk1 hD
          have hbad2 : er ≠ 0 → g' = g := hbad
          have HBAD := Lib.hid hbad2
          clear hbad hbad2
          have hA := HAk.out
          have n0 := hA.cell 0 (v := .slice ca r.counts.length cc) rfl
          have n1 := hA.cell 1 (v := .int .i64 r.first) rfl
          have n2 := hA.cell 2 (v := .int .i64 r.rounds) rfl
          have n3 := hA.cell 3 (v := .bool r.equal) rfl
          have hal := hA.lt
          clear hA
          go_upto_region 9 with fail
          refine wp_region_lat (by kernel_rfl) (fun _ _ => False) (fun k => k == 1 || (k == 6 || (k == 11 || k == 12))) (fun j v => PsR cs er at0 j v) (PsG wr.heap.size cs r g' k er)
            (by kernel_rfl) (fun k hk => by simp only [Bool.or_eq_true, beq_iff_eq] at hk; show k < 15; omega)
            (fun L L' u w hh hg => ⟨by rw [hh 6 rfl, hh 11 rfl]; exact hg.val, by rw [hh 11 rfl, hh 12 rfl]; exact hg.box⟩)
            (fun L u w w' hg hx => hg.mono hx)
            (fun j => if j = 1 then .agg cs else if j = 6 then .tuple #[.agg leg17, .int .i64 at0, .int .i64 er] else .pointer (some ⟨0, 0, none⟩))
            (fun j hj => ⟨fun h => by subst h; rfl, fun h => by subst h; exact ⟨leg17, at0, rfl, fun _ => rfl, rfl, leg17_one⟩, fun h => by subst h; exact ⟨0, rfl⟩⟩)
            ⟨fun h => (by cases h), fun h => (by cases h)⟩ ?_
          intro T hT hne u hu
          have u1 := (hu 1 rfl).one rfl
          obtain ⟨xs, at1, u6, hat1, hxs, hxo⟩ := (hu 6 rfl).val rfl
          obtain ⟨m, u11⟩ := (hu 11 rfl).box rfl
          have HXS := Lib.hid hxs
          have HXO := Lib.hid hxo
          have HAT := Lib.hid hat1
          clear hu hxs hxo hat1
          refine lx_next 1 (by rfl) (by decide) ?_
          dsimp only [List.take, List.drop]
          repeat (go_big_quiet_step (fail))
          refine wpQuiet_nil ?_
          refine lx_loud (by rfl) (by kernel_rfl) ?_ (fun K hK => ?_)
          · intro L w3 hL hd hcl hC hg
            obtain ⟨z, rfl⟩ := hC
            refine wp_load_leg rfl _ rfl b7 rfl cs (HLV2.out.blk.chg z.chg (by rintro ⟨o, h⟩; exact h)) HLV2.out.size ?_
            go_wp2
            exact ⟨⟨fun _ => rfl, fun h => absurd h (by decide), fun h => absurd h (by decide)⟩, ⟨z, rfl⟩, ⟨hg.val, hg.box⟩⟩
          rw [u1]
          go_simp
          with_reducible refine hK _ ?_
          clear hK K
          refine lx_next 4 (by rfl) (by decide) ?_
          dsimp only [List.take, List.drop]
          repeat (go_big_quiet_step (fail))
          refine wpQuiet_nil ?_
          refine lx_loud (by rfl) (by kernel_rfl) ?_ (fun K hK => ?_)
          · intro L w3 hL hd hcl hC hg
            obtain ⟨z, rfl⟩ := hC
            have hzx : Ext wr z.world := Chg.to_ext (Ext.refl wr) z.chg (by rintro i ⟨o, h⟩; exact h.elim)
            have h12 := hcl.off hL 40 12 (by kernel_rfl)
            go_wp2_with fail
            refine (HD.out _ hzx).mono ?_
            rintro e w5 ⟨v5, at5, rfl, hat5, hR5, hx5, hav5⟩
            obtain ⟨cs5, rfl, hs5, ho5⟩ := hR5.shape
            go_wp2
            refine ⟨⟨fun h => absurd h (by decide), fun _ => ⟨cs5, at5, rfl, hat5, hs5, ho5⟩, fun h => absurd h (by decide)⟩, ⟨z.ext hx5, rfl⟩, ⟨fun _ => ⟨cs5, at5, rfl, hR5, fun j hj hd2 => hav5 j hj ?_⟩, fun h11 => ?_⟩⟩
            · rcases hd2 with hd2 | hd2 | ⟨h11, he⟩
              · exact .inl (Nat.lt_of_lt_of_le hd2 hzx.size)
              · exact .inr hd2
              · obtain ⟨j2, e2, hbj, ys, hby, -⟩ := hg.box h11
                obtain rfl : j2 = j := by have h := e2.symm.trans he; cases h; rfl
                exact .inl hby.lt
            · obtain ⟨j2, e2, hbj, ys, hby, hsy, -⟩ := hg.box h11
              exact ⟨j2, e2, hbj, ys, hby.ext hx5, hsy, fun h => by rw [show upd L 6 12 = L 12 from rfl, h12] at h; cases h⟩
          rw [u6]
          go_simp
          with_reducible refine hK _ ?_
          clear hK K
          refine lx_next 4 (by rfl) (by decide) ?_
          dsimp only [List.take, List.drop]
          repeat (go_big_quiet_step (fail))
          refine wpQuiet_nil ?_
          refine lx_loud (by rfl) (by kernel_rfl) ?_ (fun K hK => ?_)
          · intro L w3 hL hd hcl hC hg
            obtain ⟨z, rfl⟩ := hC
            have h12 := hcl.off hL 40 12 (by kernel_rfl)
            have hx9 : Ext z.world (z.world.alloc (.cells leg17 112)) := (Ext.refl _).alloc _
            have hsz := z.size
            have hb9 : Blk (z.world.alloc (.cells leg17 112)) z.world.heap.size leg17 := Blk.new _ _ _
            have hs9 : (z.world.alloc (.cells leg17 112)).heap.size = z.world.heap.size + 1 := by simp
            unfold leg17 at hx9 hb9 hs9
            go_wp2
            refine ⟨⟨fun h => absurd h (by decide), fun h => absurd h (by decide), fun _ => ⟨_, rfl⟩⟩, ⟨z.ext hx9, rfl⟩, ⟨fun h6 => ?_, fun _ => ⟨_, rfl, hsz, _, hb9, rfl, fun h => by rw [show upd L 11 12 = L 12 from rfl, h12] at h; cases h⟩⟩⟩
            obtain ⟨cs6, at6, e6, hr6, hv6⟩ := hg.val h6
            refine ⟨cs6, at6, e6, hr6.ext hx9, fun j hj hd2 => hv6 j hj ?_⟩
            rcases hd2 with hd2 | hd2 | ⟨-, he⟩
            · exact .inl hd2
            · exact .inr (.inl (by omega))
            · have he2 : z.world.heap.size = j := by have h := he; simp only [updv] at h; cases h; rfl
              exact .inr (.inl (by omega))
          rw [u11]
          go_simp
          with_reducible refine hK _ ?_
          clear hK K
          refine lx_loud (by rfl) (by kernel_rfl) ?_ (fun K hK => ?_)
          · intro L w3 hL hd hcl hC hg
            obtain ⟨z, rfl⟩ := hC
            have h6 := hd 6 (by kernel_rfl)
            have h11 := hd 11 (by kernel_rfl)
            obtain ⟨cs6, at6, e6, hr6, hv6⟩ := hg.val h6
            obtain ⟨j, ej, hbj, ys, hby, hsy, -⟩ := hg.box h11
            obtain rfl : j = m := by have h := ej.symm.trans u11; cases h; rfl
            obtain ⟨rfl, rfl⟩ : cs6 = xs ∧ at6 = at1 := by have h := e6.symm.trans u6; cases h; exact ⟨rfl, rfl⟩
            refine wp_store_leg rfl _ _ rfl j rfl cs6 rfl ys hby hsy HXS.out HXO.out ?_
            intro w6 hB6 hC6
            go_wp2
            have havj := hv6 j (HLV2.out.avd j (.inr (.inr hbj))) (.inr (.inr ⟨h11, ej⟩))
            refine ⟨⟨fun h => absurd h (by decide), fun h => absurd h (by decide), fun h => absurd h (by decide)⟩, ⟨z.chgd hC6 (by rintro b rfl; exact .inl hbj), rfl⟩, ⟨fun _ => ⟨cs6, at6, e6, hr6.chg hC6 (by rintro b rfl; exact havj), fun i hi hd2 => hv6 i hi (hd2.imp id fun h => h.imp (fun h => Nat.le_trans hC6.size h) id)⟩, fun _ => ⟨j, ej, hbj, cs6, hB6, HXS.out, fun _ cs7 at7 e7 => ?_⟩⟩⟩
            have h := e6.symm.trans e7; cases h; rfl
          go_simp
          with_reducible refine hK _ ?_
          clear hK K
          refine lx_next 2 (by rfl) (by decide) ?_
          dsimp only [List.take, List.drop]
          repeat (go_big_quiet_step (fail))
          refine wpQuiet_nil ?_
          refine lx_nil ?_
          intro z hG
          obtain ⟨cs6, at6, e6, hR6, hV6⟩ := hG.val rfl
          obtain ⟨j, ej, hbj, ys, hby, hsy, hys⟩ := hG.box rfl
          obtain rfl : j = m := by have h := ej.symm.trans u11; cases h; rfl
          obtain ⟨rfl, rfl⟩ : cs6 = xs ∧ at6 = at1 := by have h := e6.symm.trans u6; cases h; exact ⟨rfl, rfl⟩
          obtain rfl := hys rfl _ _ u6
          have hX : Ext wr z.world := Chg.to_ext (Ext.refl wr) z.chg (by rintro i ⟨o, h⟩; exact h.elim)
          have hV7 : ∀ j2, (j2 = w.heap.size + 1 ∨ j2 = b7 ∨ z.world.heap.size ≤ j2) → Avd (.agg ys) j2 := fun j2 hj => hV6 j2 (HLV2.out.avd j2 (by have := hX.size; omega)) (by omega)
          have hBY := Lib.hid hby
          have HR7 := Lib.hid hR6
          have HV7 := Lib.hid hV7
          have HV6 := Lib.hid hV6
          have hL2 := Lib.hid (HLV2.out.blk.ext hX)
          have HAz := Lib.hid (HAk.out.ext hX)
          have HZz := Lib.hid (HZk.out.ext hX)
          have hEz := hx.trans hX
          have hszz := hX.size
          have hXz := Lib.hid hX
          have hlj := hby.lt
          have HOa := Lib.hid hoa
          have HOF := Lib.hid (hOF.ext hX)
          have hofl := own_lt hOF
          generalize z.world = wz at *
          clear hG hby hR6 hV6 hV7 hys e6 ej u1 u6 u11 hT hne z HD n0 n1 n2 n3 p0 p1 HBE HAk HZk hOF hoa
          obtain ⟨fa, fc, hfv⟩ := OwnF.shape HOF.out
          subst hfv
          have HOL := Lib.hid hofl
          clear hofl
          cases he : er == 0
          · have hne : er ≠ 0 := by simpa using he
            obtain rfl := HBAD.out hne
            obtain rfl := HAT.out hne
            have hS2 : judE (judL r g' (k + 1) (l.drop (k + 1)) (fs ++ [⟨k, at6, er⟩])) = S := by rw [← HS1.out, if_pos hne]
            have HS2 := Lib.hid hS2
            have hLVz := HLV2.out
            have hRz := hLVz.ref.ext hXz.out
            have HRz := Lib.hid hRz
            clear hS2 hne HS1 hLVz hRz
            go_wp2_with (at_builtin; refine wp_append_f_at rfl _ _ rfl w2.heap.size _ fs rfl (HOF.out.ext ((Ext.refl wz).alloc _)) wz.heap.size 1 ⟨k, at6, er⟩ rfl (new_three _ _ _ _ _) (by omega) (by simp; omega) ?_)
            intro v' w4 hO4 hg4 hat4
            have hfr := own_lt HOF.out
            have hX4 := (Ext.refl wz).alloc (.cells #[.int .i64 k, .int .i64 at6, .int .i64 er] 61)
            have hC4 := grown_chg hg4
            have hE4 : Ext w w4 := Chg.to_ext (hEz.trans hX4) hC4 (fun i e => by have := hfr i e; omega)
            have hx4 := hC4.size
            have hxa := hX4.size
            have hL4 : LegV w4 (w.heap.size + 1) b7 cs r g' (k + 1) := ⟨(hL2.out.ext hX4).chg hC4 (fun e => (HOa.out _ e).1 rfl), HLV2.out.size, HLV2.out.one, ((HRz.out.ext hX4).chg hC4 (fun j e => (HOa.out j e).2)).mono (Nat.le_succ k), fun j2 hj => HLV2.out.avd j2 (by omega)⟩
            have hA4 := (HAz.out.ext hX4).chg hC4 (fun e => by have := hfr _ e; omega)
            have hZ4 := (HZz.out.ext hX4).chg hC4 (fun e => by have := hfr _ e; omega)
            have hoa4 : ∀ j, v'.ownBlock = some j → j ≠ b7 ∧ Avd (.agg cs) j := fun j e => by
              rcases hat4 with h | h
              · rw [h] at e; exact HOa.out j e
              · rw [h] at e; cases e; exact ⟨by omega, HLV2.out.avd _ (by simp; omega)⟩
            obtain ⟨a6, c6, hfv6⟩ := OwnF.shape hO4
            rw [show (fs ++ [(⟨k, at6, er⟩ : Flt)]).length = fs.length + 1 by simp] at hfv6
            subst hfv6
            have HO4 := Lib.hid hO4
            have HL4 := Lib.hid hL4
            have HA4 := Lib.hid hA4
            have HZ4 := Lib.hid hZ4
            have HOA4 := Lib.hid hoa4
            clear hO4 hL4 hA4 hZ4 hoa4 hC4 hX4 hfr hg4 hat4
            go_wp2
            go_roundw
            case rel => exact ⟨k + 1, g', cs, _, by omega, by go_num, HL4.out, HOk1.out, by simp; omega, HO4.out, HOA4.out, HS2.out, HA4.out, HZ4.out, hE4⟩
            case measure => simp [intOf]; omega
          · have hee : er = 0 := by simpa using he
            have hS2 : judE (judL r g' (k + 1) (l.drop (k + 1)) fs) = S := by rw [← HS1.out, if_neg (by simp [hee])]
            have HS2 := Lib.hid hS2
            clear hS2 hee
            go_wp2_with (first | (refine wp_load_leg rfl _ rfl j rfl ys hBY.out HXS.out ?_) | (refine wp_store_leg rfl _ _ rfl b7 rfl ys rfl cs hL2.out HLV2.out.size HXS.out HXO.out ?_; intro W8 hB8 hC8))
            have hx8 := hC8.size
            have hL8 : LegV W8 (w.heap.size + 1) b7 ys r g' (k + 1) := ⟨hB8, HXS.out, HXO.out, HR7.out.chg hC8 (by rintro i rfl; exact HV7.out i (.inr (.inl rfl))), fun j2 hj => HV7.out j2 (by omega)⟩
            have hE8 : Ext w W8 := Chg.to_ext hEz hC8 (by rintro i rfl; omega)
            have hA8 := HAz.out.chg hC8 (by omega)
            have hZ8 := HZz.out.chg hC8 (by omega)
            have hF8 := HOF.out.chg hC8 (fun j e e2 => (HOa.out j e).1 e2)
            have hoa8 : ∀ j, (Value.slice fa fs.length fc).ownBlock = some j → j ≠ b7 ∧ Avd (.agg ys) j := fun j e => ⟨(HOa.out j e).1, HV6.out j (HOa.out j e).2 (.inl (HOL.out j e).2)⟩
            have HL8 := Lib.hid hL8
            have HA8 := Lib.hid hA8
            have HZ8 := Lib.hid hZ8
            have HF8 := Lib.hid hF8
            have HOA8 := Lib.hid hoa8
            clear hL8 hA8 hZ8 hB8 hC8 hF8 hoa8
            go_roundw
            case rel => exact ⟨k + 1, g', ys, fs, by omega, by go_num, HL8.out, HOk1.out, by omega, HF8.out, HOA8.out, HS2.out, HA8.out, HZ8.out, hE8⟩
            case measure => simp [intOf]; omega
        · have hTS : S = (g, fs, 0) := by rw [← HSk.out, List.drop_of_length_le (by omega)]; rfl
          have HTS := Lib.hid hTS
          clear hTS HSk
          obtain ⟨fa, fc, hfv⟩ := OwnF.shape hOF
          subst hfv
          have HOF := Lib.hid hOF
          have HOL := Lib.hid (own_lt hOF)
          clear hOF
          obtain ⟨a0, a1, a2, a3, c0, c1, c2, c3, ⟨⟨e0, e1, e2, e3⟩, e4, e5, e6⟩, hrd⟩ := RefAt.reads HLV2.out.ref HLV2.out.blk
          have HRD := Lib.hid hrd
          have hav := HLV2.out.avd (w.heap.size + 1) (.inl rfl)
          clear hrd
          obtain ⟨⟨z0, z1, z2, z3, z4, z5, z6⟩, zs, f0, f1, f2, f3, f4, f5, f6⟩ := HZk.out.seven
          go_wp2
          generalize hW : World.setCell _ _ _ = W
          have hchg := seven_chg (· = w.heap.size + 1) wr rfl (.slice a0 g.left.length c0) (.slice a1 g.darts.length c1) (.slice a2 g.inn.length c2) (.int .i64 g.next) (.int .i64 g.round) (.bool g.over) (.slice a3 g.winners.length c3)
          have hB := seven_set HZk.out (.slice a0 g.left.length c0) (.slice a1 g.darts.length c1) (.slice a2 g.inn.length c2) (.int .i64 g.next) (.int .i64 g.round) (.bool g.over) (.slice a3 g.winners.length c3)
          rw [hW] at hchg hB
          obtain ⟨⟨q0, q1, q2, q3, q4, q5, q6⟩, _⟩ := hB.seven
          refine bodyPost_ret (v := .tuple #[.agg #[.slice a0 g.left.length c0, .slice a1 g.darts.length c1, .slice a2 g.inn.length c2, .int .i64 g.next, .int .i64 g.round, .bool g.over, .slice a3 g.winners.length c3], .slice fa fs.length fc, .int .i64 0]) (by simp [results, Try.results28, go_sem, q0, q1, q2, q3, q4, q5, q6]) rfl ?_
          rw [HTS.out]
          exact ⟨_, _, rfl, ⟨a0, a1, a2, a3, c0, c1, c2, c3, HRD.out W _ hav hchg⟩, own_mono (HOF.out.chg hchg fun j e e2 => by have := HOL.out j e; omega) (by omega), Chg.to_ext hx hchg (by rintro i rfl; omega)⟩
end Go.Proofs.Ytocnglplhnhllaa
