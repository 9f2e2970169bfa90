/-
  Package leg: Check.
-/
import Derived.Test.YtpifdeglhalefaaLegD
import Derived.Test.YtpifdeglhalefaaSlicesR
namespace Go.Proofs.Ytpifdeglhalefaa
open Go.RowKit

def Cnt.ok (c : Cnt) : Bool := cntB c.start c.gin c.gout
/-- The rules of a leg. -/
structure Rul where
  counts : List Cnt
  first : Int
  rounds : Int
  equal : Bool
def Rul.ok (r : Rul) : Bool := ins 0 7 [(r.counts.length : Int) - 1] && (!r.counts.any (fun c => !c.ok)) && ins 0 ((r.counts.length : Int) - 1) [r.first] && ins 0 200 [r.rounds]
theorem check1 (x : Cnt) (w : World) : Calls Try.prog 95 #[x.agg] w fun e w' => e = .returned (.bool (!x.ok)) ∧ Ext w w' := by
  obtain ⟨start, gin, gout⟩ := x
  unfold Cnt.agg
  go_enter Try.func95, Try.ntmps95
  go_wp2_with fail
  refine (leg_isCount start gin gout _).mono ?_
  rintro e w1 ⟨rfl, hx1⟩
  go_wp2
  go_ret
  exact ⟨rfl, ((Ext.refl w).alloc _).trans hx1⟩
theorem enters_check1 : Enters Try.prog 95 := enters_of Try.func95 (by kernel_rfl) rfl
/-- The error of rules. -/
def Rul.err (r : Rul) : Int := if r.ok = true then 0 else 2
theorem leg_Check (r : Rul) (a : Option Addr) (c : Nat) (w : World) (ha : CntsAt w a r.counts) (hl : r.counts.length ≤ 9223372036854775807) :
    Calls Try.prog 64 #[.agg #[.slice a r.counts.length c, .int .i64 r.first, .int .i64 r.rounds, .bool r.equal]] w fun e w' => e = .returned (.int .i64 r.err) ∧ Ext w w' := by
  obtain ⟨cs, first, rounds, equal⟩ := r
  simp only at ha hl ⊢
  have hw : wrap64 ((cs.length : Int) - 1) = (cs.length : Int) - 1 := wrap64_in' ⟨by omega, by omega⟩
  have hA := Lib.hid ha
  clear ha
  go_enter Try.func64, Try.ntmps64
  go_wp2_with fail
  refine (leg_within_1 _ _ _ _ _ (by simp)).mono ?_
  rintro e w1 ⟨rfl, hx1⟩
  have hb1 : Blk w1 w.heap.size #[.slice a cs.length c, .int .i64 first, .int .i64 rounds, .bool equal] := (Blk.at _ (by simp)).ext hx1
  have hE1 := ((Ext.refl w).alloc (.cells #[.slice a cs.length c, .int .i64 first, .int .i64 rounds, .bool equal] 68)).trans hx1
  clear hx1
  have k0 := hb1.cell 0 (v := .slice a cs.length c) rfl
  have hlt := hb1.lt
  cases h1 : ins 0 7 [(cs.length : Int) - 1]
  · go_wp2
    go_ret
    exact ⟨ret_int (by simp [Rul.err, Rul.ok, h1]), hE1⟩
  · go_wp2_with fail
    refine (containsFunc_c 95 #[] enters_check1 (fun c => !c.ok) cs a c w1 (hA.out.ext hE1) hl (fun x _ w2 _ => check1 x w2)).mono ?_
    rintro e w2 ⟨rfl, hx2⟩
    have hb2 := hb1.ext hx2
    have hE2 := hE1.trans hx2
    clear k0 hlt hx2 hE1 hb1
    have k1 := hb2.cell 1 (v := .int .i64 first) rfl
    have hlt := hb2.lt
    cases h2 : cs.any (fun c => !c.ok)
    · go_wp2_with fail
      refine (leg_within_1 _ _ _ _ _ (by simp)).mono ?_
      rintro e w3 ⟨rfl, hx3⟩
      have hb3 := hb2.ext hx3
      have hE3 := hE2.trans hx3
      clear k1 hlt hx3 hE2 hb2
      have k2 := hb3.cell 2 (v := .int .i64 rounds) rfl
      have hlt := hb3.lt
      cases h3 : ins 0 ((cs.length : Int) - 1) [first]
      · go_wp2
        go_ret
        exact ⟨ret_int (by simp only [Rul.err, Rul.ok, h1, h2, h3]; rfl), hE3⟩
      · go_wp2_with fail
        refine (leg_within_1 _ _ _ _ _ (by simp)).mono ?_
        rintro e w4 ⟨rfl, hx4⟩
        have hE4 := hE3.trans hx4
        clear hx4 hE3 hb3
        cases h4 : ins 0 200 [rounds]
        all_goals
          go_wp2
          go_ret
          exact ⟨ret_int (by simp only [Rul.err, Rul.ok, h1, h2, h3, h4]; rfl), hE4⟩
    · go_wp2
      go_ret
      exact ⟨ret_int (by simp only [Rul.err, Rul.ok, h1, h2]; rfl), hE2⟩
end Go.Proofs.Ytpifdeglhalefaa
