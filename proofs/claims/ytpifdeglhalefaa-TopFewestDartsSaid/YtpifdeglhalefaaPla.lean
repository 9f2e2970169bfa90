/-
  Package leg: Play.
-/
import Derived.Test.YtpifdeglhalefaaDos
namespace Go.Proofs.Ytpifdeglhalefaa
open Go.RowKit
/-- The cells of a block of seven. -/
theorem Blk.seven {w : World} {b : Nat} {v0 v1 v2 v3 v4 v5 v6 : Value} (h : Blk w b #[v0, v1, v2, v3, v4, v5, v6]) :
    (w.cell? ⟨b, 0, none⟩ = some v0 ∧ w.cell? ⟨b, 1, none⟩ = some v1 ∧ w.cell? ⟨b, 2, none⟩ = some v2 ∧ w.cell? ⟨b, 3, none⟩ = some v3 ∧ w.cell? ⟨b, 4, none⟩ = some v4 ∧ w.cell? ⟨b, 5, none⟩ = some v5 ∧ w.cell? ⟨b, 6, none⟩ = some v6) ∧ b < w.heap.size ∧
      (w.frozen? ⟨b, 0, none⟩ = false ∧ w.frozen? ⟨b, 1, none⟩ = false ∧ w.frozen? ⟨b, 2, none⟩ = false ∧ w.frozen? ⟨b, 3, none⟩ = false ∧ w.frozen? ⟨b, 4, none⟩ = false ∧ w.frozen? ⟨b, 5, none⟩ = false ∧ w.frozen? ⟨b, 6, none⟩ = false) :=
  ⟨⟨h.cell 0 rfl, h.cell 1 rfl, h.cell 2 rfl, h.cell 3 rfl, h.cell 4 rfl, h.cell 5 rfl, h.cell 6 rfl⟩, h.lt, h.frozen 0, h.frozen 1, h.frozen 2, h.frozen 3, h.frozen 4, h.frozen 5, h.frozen 6⟩
theorem seven_set {w : World} {b : Nat} {v0 v1 v2 v3 v4 v5 v6 : Value} (h : Blk w b #[v0, v1, v2, v3, v4, v5, v6]) (x0 x1 x2 x3 x4 x5 x6 : Value) :
    Blk (((((((w.setCell ⟨b, 0, none⟩ x0).setCell ⟨b, 1, none⟩ x1).setCell ⟨b, 2, none⟩ x2).setCell ⟨b, 3, none⟩ x3).setCell ⟨b, 4, none⟩ x4).setCell ⟨b, 5, none⟩ x5).setCell ⟨b, 6, none⟩ x6) b #[x0, x1, x2, x3, x4, x5, x6]:= by
  have h0 : Blk _ b #[x0, v1, v2, v3, v4, v5, v6] := h.set 0 x0
  have h1 : Blk _ b #[x0, x1, v2, v3, v4, v5, v6] := h0.set 1 x1
  have h2 : Blk _ b #[x0, x1, x2, v3, v4, v5, v6] := h1.set 2 x2
  have h3 : Blk _ b #[x0, x1, x2, x3, v4, v5, v6] := h2.set 3 x3
  have h4 : Blk _ b #[x0, x1, x2, x3, x4, v5, v6] := h3.set 4 x4
  have h5 : Blk _ b #[x0, x1, x2, x3, x4, x5, v6] := h4.set 5 x5
  have h6 : Blk _ b #[x0, x1, x2, x3, x4, x5, x6] := h5.set 6 x6
  exact h6
theorem seven_chg (S : Nat → Prop) (w : World) {b : Nat} (hb : S b) (x0 x1 x2 x3 x4 x5 x6 : Value) :
    Chg S w (((((((w.setCell ⟨b, 0, none⟩ x0).setCell ⟨b, 1, none⟩ x1).setCell ⟨b, 2, none⟩ x2).setCell ⟨b, 3, none⟩ x3).setCell ⟨b, 4, none⟩ x4).setCell ⟨b, 5, none⟩ x5).setCell ⟨b, 6, none⟩ x6) :=
  (((((((Chg.refl S w).setCell (.inr hb) x0).setCell (.inr hb) x1).setCell (.inr hb) x2).setCell (.inr hb) x3).setCell (.inr hb) x4).setCell (.inr hb) x5).setCell (.inr hb) x6
def Gm.zero : Gm := ⟨[], [], [], 0, 0, false, [], fun _ => none, 0⟩
/-- The cells at an address read as visits. -/
def VisAt (w : World) (a : Option Addr) (l : List LV) : Prop :=
  ∀ i, (h : i < l.length) → ∃ b o ba bc, a = some ⟨b, o, none⟩ ∧ w.cell? ⟨b, o + i * 2, none⟩ = some (.int .i64 l[i].player) ∧ w.cell? ⟨b, o + i * 2 + 1, none⟩ = some (.slice ba l[i].beds.length bc) ∧ CellsAt w .i64 ba l[i].beds
theorem VisAt.ext {w w' : World} {a : Option Addr} {l : List LV} (h : VisAt w a l) (hx : Ext w w') : VisAt w' a l := fun i hi => by
  obtain ⟨b, o, ba, bc, e, h1, h2, h3⟩ := h i hi
  exact ⟨b, o, ba, bc, e, hx.cell h1, hx.cell h2, h3.ext hx⟩
/-- A state of a leg in memory. -/
def StAt (w : World) (base : Nat) (v : Value) (g : Gm) : Prop :=
  ∃ lv dv iv wv, v = .agg #[lv, dv, iv, .int .i64 g.next, .int .i64 g.round, .bool g.over, wv] ∧ OwnI w base lv g.left ∧ OwnI w base dv g.darts ∧ OwnB w base iv g.inn ∧ OwnI w base wv g.winners
def playL (r : Rul) : Gm → Int → List LV → Gm × Int × Int
  | g, _, [] => (g, 0, 0)
  | g, i, v :: l => if (g.step r v.player v.beds).2.2 ≠ 0 then (.zero, i, (g.step r v.player v.beds).2.2) else playL r (g.step r v.player v.beds).1 (i + 1) l
/-- A leg after visits. -/
def playS (r : Rul) (l : List LV) : Gm × Int × Int := if newE r l.length ≠ 0 then (.zero, 0, newE r l.length) else playL r (.begin r) 0 l
def LV.fits (v : LV) : Prop := I64 v.player ∧ (∀ x ∈ v.beds, I64 x) ∧ v.beds.length ≤ 9223372036854775807
def PlayP (w0 : World) (base : Nat) (S : Gm × Int × Int) (e : Ending) (w' : World) : Prop :=
  ∃ v, e = .returned (.tuple #[v, .int .i64 S.2.1, .int .i64 S.2.2]) ∧ StAt w' base v S.1 ∧ Ext w0 w'
theorem do_any (r : Rul) (g : Gm) (h0 b : Nat) (ca : Option Addr) (cc n : Nat) (p : Int) (beds : List Int) (ba : Option Addr) (bc : Nat) (w : World) (hr : r.ok = true) (h : OnGm w h0 b (.slice ca r.counts.length cc) r g n) (hI : g.Ok r n) (hn : n ≤ 3000)
    (hC : CntsAt w ca r.counts) (hb : CellsAt w .i64 ba beds) (hbi : ∀ x ∈ beds, I64 x) (hbl : beds.length ≤ 9223372036854775807) :
    Calls Try.prog 38 #[.pointer (some ⟨b, 0, none⟩), .agg #[.int .i64 p, .slice ba beds.length bc]] w (DoP w h0 b (.slice ca r.counts.length cc) r n (g.step r p beds)) := by
  cases hc : chkS r.counts.length g.next g.over p == 0
  · exact do_refused r g h0 b ca cc n p _ beds w rfl (Rul.ok_length hr).2 h hc
  · have hc' : chkS r.counts.length g.next g.over p = 0 := by simpa using hc
    obtain ⟨-, -, hp, -⟩ := chkS_zero hc'
    obtain ⟨i, rfl⟩ : ∃ i : Nat, p = i := ⟨p.toNat, by omega⟩
    exact game_do r g h0 b ca cc n i beds ba bc w hr h hI hn hC hb hbi hbl hc'
set_option maxHeartbeats 1000000 in
theorem leg_Play (r : Rul) (ca : Option Addr) (cc : Nat) (l : List LV) (la : Option Addr) (lc : Nat) (w : World) (hC : CntsAt w ca r.counts) (hl : r.counts.length ≤ 9223372036854775807) (hV : VisAt w la l) (hf : ∀ v ∈ l, v.fits) (hll : l.length ≤ 9223372036854775807)
    (S : Gm × Int × Int) (hS : playS r l = S) :
    Calls Try.prog 16 #[.agg #[.slice ca r.counts.length cc, .int .i64 r.first, .int .i64 r.rounds, .bool r.equal], .slice la l.length lc] w (PlayP w w.heap.size S) := by
  have HS := Lib.hid hS
  have HC := Lib.hid hC
  have HV := Lib.hid hV
  have HF := Lib.hid hf
  clear hS hC hV hf
  cases hne : newE r l.length == 0
  · have HN := Lib.hid hne
    clear hne
    go_enter Try.func16, Try.ntmps16
    go_wp2_with fail
    refine (newGame_bad r ca cc l.length _ (HC.out.ext (by exact ((Ext.refl w).alloc _).alloc _)) hl HN.out).mono ?_
    rintro e w1 ⟨rfl, hx1⟩
    have hz : Blk w1 (w.heap.size + 1) #[.slice none 0 0, .slice none 0 0, .slice none 0 0, .int .i64 0, .int .i64 0, .bool false, .slice none 0 0] := (Blk.at _ (by simp)).ext hx1
    have hE1 := (((Ext.refl w).alloc (.cells #[.slice ca r.counts.length cc, .int .i64 r.first, .int .i64 r.rounds, .bool r.equal] 68)).alloc (.cells #[.slice none 0 0, .slice none 0 0, .slice none 0 0, .int .i64 0, .int .i64 0, .bool false, .slice none 0 0] 60)).trans hx1
    have HZ := Lib.hid hz
    obtain ⟨⟨z0, z1, z2, z3, z4, z5, z6⟩, zs, f0, f1, f2, f3, f4, f5, f6⟩ := hz.seven
    clear hz hx1
    have hee : (newE r l.length == 0) = false := HN.out
    have hTS : S = (.zero, 0, newE r l.length) := by rw [← HS.out]; unfold playS; rw [if_pos (by simpa using hee)]
    have HTS := Lib.hid hTS
    clear hTS HS
    generalize newE r l.length = ee at *
    go_wp2
    generalize hW : World.setCell _ _ _ = W
    have hchg := seven_chg (· = w.heap.size + 1) w1 rfl (.slice none 0 0) (.slice none 0 0) (.slice none 0 0) (.int .i64 0) (.int .i64 0) (.bool false) (.slice none 0 0)
    have hB := seven_set HZ.out (.slice none 0 0) (.slice none 0 0) (.slice none 0 0) (.int .i64 0) (.int .i64 0) (.bool false) (.slice none 0 0)
    rw [hW] at hchg hB
    obtain ⟨⟨q0, q1, q2, q3, q4, q5, q6⟩, _⟩ := hB.seven
    refine bodyPost_ret (v := .tuple #[.agg #[.slice none 0 0, .slice none 0 0, .slice none 0 0, .int .i64 0, .int .i64 0, .bool false, .slice none 0 0], .int .i64 0, .int .i64 ee]) (by simp [results, Try.results16, go_sem, q0, q1, q2, q3, q4, q5, q6]) rfl ?_
    rw [HTS.out]
    exact ⟨_, rfl, ⟨_, _, _, _, rfl, OwnI.nil _ _, OwnI.nil _ _, OwnB.nil _ _, OwnI.nil _ _⟩, Chg.to_ext hE1 hchg (by rintro i rfl; omega)⟩
  · have hne' : newE r l.length = 0 := by simpa using hne
    have hok : r.ok = true := by
      unfold newE at hne'
      cases ho : r.ok
      · rw [ho] at hne'; simp at hne'
      · rfl
    have hlen : l.length ≤ 2000 := by
      unfold newE at hne'
      rw [hok] at hne'
      by_cases h : (2000 : Int) < l.length
      · simp [h] at hne'
      · omega
    have hS0 : playL r (.begin r) 0 l = S := by rw [← HS.out]; unfold playS; rw [if_neg (by simpa using hne')]
    have HS0 := Lib.hid hS0
    have HN := Lib.hid hne'
    have HOK := Lib.hid hok
    clear hS0 hne' hok HS hne
    go_enter Try.func16, Try.ntmps16
    go_wp2_with fail
    refine (newGame_ok r ca cc l.length _ (HC.out.ext (by exact ((Ext.refl w).alloc _).alloc _)) HN.out).mono ?_
    rintro e w1 ⟨b, rfl, hG1, hx1⟩
    have hz : Blk w1 (w.heap.size + 1) #[.slice none 0 0, .slice none 0 0, .slice none 0 0, .int .i64 0, .int .i64 0, .bool false, .slice none 0 0] := (Blk.at _ (by simp)).ext hx1
    have hE1 := (((Ext.refl w).alloc (.cells #[.slice ca r.counts.length cc, .int .i64 r.first, .int .i64 r.rounds, .bool r.equal] 68)).alloc (.cells #[.slice none 0 0, .slice none 0 0, .slice none 0 0, .int .i64 0, .int .i64 0, .bool false, .slice none 0 0] 60)).trans hx1
    have hG2 : OnGm w1 (w.heap.size + 2) b (.slice ca r.counts.length cc) r (Gm.begin r) 0 := by simpa using hG1
    have HG := Lib.hid hG2
    have HZ := Lib.hid hz
    clear hG1 hG2 hz hx1
    go_wp2
    go_loopw [25] (fun i wr => ∃ (k : Nat) (g : Gm), k ≤ l.length ∧ i = .int .i64 k ∧ OnGm wr (w.heap.size + 2) b (.slice ca r.counts.length cc) r g k ∧ g.Ok r k ∧ playL r g k (l.drop k) = S ∧ Blk wr (w.heap.size + 1) #[.slice none 0 0, .slice none 0 0, .slice none 0 0, .int .i64 0, .int .i64 0, .bool false, .slice none 0 0] ∧ Ext w wr) (fun i _ => l.length - (intOf i).toNat)
    case atStart => exact ⟨0, Gm.begin r, Nat.zero_le _, rfl, HG.out, Gm.Ok.begin HOK.out, HS0.out, HZ.out, hE1⟩
    case round =>
      obtain ⟨k, g, hk, rfl, hG, hI, hS, hZ, hx⟩ := hrel
      have HGk := Lib.hid hG
      have HIk := Lib.hid hI
      have HSk := Lib.hid hS
      have HZk := Lib.hid hZ
      clear hG hI hS hZ HG HZ HS0 hE1
      by_cases hlt : k < l.length
      · obtain ⟨vb, vo, ba, bc, rfl, p0, p1, hbe⟩ := HV.out k hlt
        replace p0 := hx.cell p0
        replace p1 := hx.cell p1
        obtain ⟨-, hbi, hbl⟩ := HF.out _ (List.getElem_mem hlt)
        have hpl := lt_of_cell p0
        have hdrop : l.drop k = l[k] :: l.drop (k + 1) := by simp
        have hS1 := HSk.out
        rw [hdrop] at hS1
        unfold playL at hS1
        have HS1 := Lib.hid hS1
        have HBE := Lib.hid (hbe.ext hx)
        have HBI := Lib.hid hbi
        clear hS1 HSk hdrop hbe hbi
        have hOk1 := HIk.out.step l[k].player l[k].beds
        have hD := fun W hW => do_any r g (w.heap.size + 2) b _ cc k l[k].player l[k].beds ba bc W HOK.out (HGk.out.ext hW) HIk.out (by omega) (HC.out.ext (hx.trans hW)) (HBE.out.ext hW) HBI.out hbl
        generalize g.step r l[k].player l[k].beds = T at *
        obtain ⟨g', at', er⟩ := T
        have HOk1 := Lib.hid hOk1
        have HD := Lib.hid hD
        clear hOk1 hD
        go_wp2_with fail
        refine (HD.out _ ((Ext.refl _).alloc _)).mono ?_
        rintro e w2 ⟨rfl, hG2, hC2⟩
        have hE2 : Ext w w2 := Chg.to_ext (hx.alloc _) hC2 (by intro i hi; have := hi.1; omega)
        have hZ2 := (HZk.out.alloc (.cells #[.int .i64 l[k].player, .slice ba l[k].beds.length bc] 62)).chg hC2 (fun hi => by have := hi.1; omega)
        have HG2 := Lib.hid hG2
        have HZ2 := Lib.hid hZ2
        clear hG2 hC2 hZ2 HD HZk HGk HBE p0 p1
        cases he : er == 0
        · have hTS : S = (Gm.zero, (k : Int), er) := by rw [← HS1.out, if_pos (by simpa using he)]
          have HTS := Lib.hid hTS
          obtain ⟨⟨z0, z1, z2, z3, z4, z5, z6⟩, zs, f0, f1, f2, f3, f4, f5, f6⟩ := HZ2.out.seven
          clear hTS HS1
          go_wp2
          generalize hW : World.setCell _ _ _ = W
          have hchg := seven_chg (· = w.heap.size + 1) w2 rfl (.slice none 0 0) (.slice none 0 0) (.slice none 0 0) (.int .i64 0) (.int .i64 0) (.bool false) (.slice none 0 0)
          have hB := seven_set HZ2.out (.slice none 0 0) (.slice none 0 0) (.slice none 0 0) (.int .i64 0) (.int .i64 0) (.bool false) (.slice none 0 0)
          rw [hW] at hchg hB
          obtain ⟨⟨q0, q1, q2, q3, q4, q5, q6⟩, _⟩ := hB.seven
          refine bodyPost_ret (v := .tuple #[.agg #[.slice none 0 0, .slice none 0 0, .slice none 0 0, .int .i64 0, .int .i64 0, .bool false, .slice none 0 0], .int .i64 k, .int .i64 er]) (by simp [results, Try.results16, go_sem, q0, q1, q2, q3, q4, q5, q6]) rfl ?_
          rw [HTS.out]
          exact ⟨_, rfl, ⟨_, _, _, _, rfl, OwnI.nil _ _, OwnI.nil _ _, OwnB.nil _ _, OwnI.nil _ _⟩, Chg.to_ext hE2 hchg (by rintro i rfl; omega)⟩
        · have hS2 : playL r g' (k + 1) (l.drop (k + 1)) = S := by rw [← HS1.out, if_neg (by simpa using he)]
          have HS2 := Lib.hid hS2
          clear hS2
          go_wp2
          go_roundw
          case rel => exact ⟨k + 1, g', by omega, by go_num, HG2.out, HOk1.out, HS2.out, HZ2.out, hE2⟩
          case measure => simp [intOf]; omega
      · have hTS : S = (g, 0, 0) := by rw [← HSk.out, List.drop_of_length_le (by omega)]; rfl
        have HTS := Lib.hid hTS
        clear hTS HSk
        obtain ⟨⟨z0, z1, z2, z3, z4, z5, z6⟩, zs, f0, f1, f2, f3, f4, f5, f6⟩ := HZk.out.seven
        obtain ⟨lv, dv, iv, wv, em, D, hO⟩ := HGk.out
        have b4 := hO.blk.cell 4 (v := lv) rfl
        have b5 := hO.blk.cell 5 (v := dv) rfl
        have b6 := hO.blk.cell 6 (v := iv) rfl
        have b7 := hO.blk.cell 7 (v := .int .i64 g.next) rfl
        have b8 := hO.blk.cell 8 (v := .int .i64 g.round) rfl
        have b9 := hO.blk.cell 9 (v := .bool g.over) rfl
        have b10 := hO.blk.cell 10 (v := wv) rfl
        have hblt := hO.blk.lt
        have hlo := hO.lo
        obtain ⟨al, cl, hlv, -⟩ := hO.left.cells
        obtain ⟨ad, cd, hdv, -⟩ := hO.darts.cells
        obtain ⟨ai, ci, hiv⟩ := OwnB.shape hO.inn
        obtain ⟨aw, cw, hwv, -⟩ := hO.winners.cells
        have HO := Lib.hid hO
        clear hO HGk
        subst hlv hdv hiv hwv
        go_wp2
        generalize hW : World.setCell _ _ _ = W
        have hchg := seven_chg (· = w.heap.size + 1) wr rfl (.slice al g.left.length cl) (.slice ad g.darts.length cd) (.slice ai g.inn.length ci) (.int .i64 g.next) (.int .i64 g.round) (.bool g.over) (.slice aw g.winners.length cw)
        have hB := seven_set HZk.out (.slice al g.left.length cl) (.slice ad g.darts.length cd) (.slice ai g.inn.length ci) (.int .i64 g.next) (.int .i64 g.round) (.bool g.over) (.slice aw g.winners.length cw)
        rw [hW] at hchg hB
        obtain ⟨⟨q0, q1, q2, q3, q4, q5, q6⟩, _⟩ := hB.seven
        refine bodyPost_ret (v := .tuple #[.agg #[.slice al g.left.length cl, .slice ad g.darts.length cd, .slice ai g.inn.length ci, .int .i64 g.next, .int .i64 g.round, .bool g.over, .slice aw g.winners.length cw], .int .i64 0, .int .i64 0]) (by simp [results, Try.results16, go_sem, q0, q1, q2, q3, q4, q5, q6]) rfl ?_
        rw [HTS.out]
        have hO := HO.out
        refine ⟨_, rfl, ⟨_, _, _, _, rfl, own_mono (hO.left.chg hchg fun i hi e => ?_) ?_, own_mono (hO.darts.chg hchg fun i hi e => ?_) ?_, own_mono (hO.inn.chg hchg fun i hi e => ?_) ?_, own_mono (hO.winners.chg hchg fun i hi e => ?_) ?_⟩, Chg.to_ext hx hchg (by rintro i rfl; omega)⟩
        · have := (own_lt hO.left i hi).1; omega
        · omega
        · have := (own_lt hO.darts i hi).1; omega
        · omega
        · have := (own_lt hO.inn i hi).1; omega
        · omega
        · have := (own_lt hO.winners i hi).1; omega
        · omega
end Go.Proofs.Ytpifdeglhalefaa
