/-
  The statement LegTurned: the two legs beside each other.
-/
import Derived.Test.YtocnglplhnhllaaTow
import Derived.Test.YtocnglplhnhllaaTuc
import Derived.Test.YtocnglplhnhllaaSex
import Derived.Test.YtocnglplhnhllaaKep
namespace Go.Proofs.Ytocnglplhnhllaa
/-- Where a player stands then. -/
def tau (n b p : Nat) : Nat := (p + b) % n
theorem tau_lt {n b p : Nat} (hp : p < n) : tau n b p < n := Nat.mod_lt _ (by omega)
theorem tau_eq {n b p : Nat} (hp : p < n) (hb : b < n) : tau n b p = if p + b < n then p + b else p + b - n := by
  unfold tau
  split
  · exact Nat.mod_eq_of_lt (by omega)
  · rw [Nat.mod_eq_sub_mod (by omega), Nat.mod_eq_of_lt (by omega)]
theorem tau_int {n b : Nat} {p : Nat} : ((tau n b p : Nat) : Int) = ((p : Int) + (b : Int)) % (n : Int) := by
  unfold tau
  rw [Int.natCast_emod, Int.natCast_add]
theorem tau_inj {n b p q : Nat} (hp : p < n) (hq : q < n) (hb : b < n) (h : tau n b p = tau n b q) : p = q := by
  rw [tau_eq hp hb, tau_eq hq hb] at h
  split at h <;> split at h <;> omega
theorem tau_onto {n b q : Nat} (hq : q < n) (hb : b < n) : ∃ p, p < n ∧ tau n b p = q := by
  by_cases h : b ≤ q
  · exact ⟨q - b, by omega, by rw [tau_eq (by omega) hb, if_pos (by omega)]; omega⟩
  · exact ⟨q + n - b, by omega, by rw [tau_eq (by omega) hb, if_neg (by omega)]; omega⟩
theorem tau_succ {n b p : Nat} : tau n b ((p + 1) % n) = (tau n b p + 1) % n := by
  unfold tau
  rw [Nat.mod_add_mod, Nat.mod_add_mod]
  congr 1
  omega
/-- Rules whose players have moved on. -/
structure RotR (b : Nat) (r r' : Rul) : Prop where
  len : r'.counts.length = r.counts.length
  lt : b < r.counts.length
  cnt : ∀ p, p < r.counts.length → r'.counts[tau r.counts.length b p]? = r.counts[p]?
  first : r'.first = (r.first + (b : Int)) % (r.counts.length : Int)
  rounds : r'.rounds = r.rounds
  equal : r'.equal = r.equal
/-- What moves on with them. -/
def RotF (n b : Nat) (f f' : Int → Option Int) : Prop := ∀ p : Nat, p < n → f' (tau n b p : Nat) = f p
structure RotG (n b : Nat) (g g' : Gm) : Prop where
  ll : g.left.length = n
  ll' : g'.left.length = n
  left : ∀ p, p < n → g'.left[tau n b p]? = g.left[p]?
  li : g.inn.length = n
  li' : g'.inn.length = n
  inn : ∀ p, p < n → g'.inn[tau n b p]? = g.inn[p]?
  ended : RotF n b g.ended g'.ended
  done : g'.done = g.done
  round : g'.round = g.round
  over : g'.over = g.over
  next : g.over = false → ∃ q : Nat, q < n ∧ g.next = (q : Int) ∧ g'.next = (tau n b q : Nat)
  wlen : g'.winners.length = g.winners.length
  wins : ∀ p, p < n → ((p : Int) ∈ g.winners ↔ ((tau n b p : Nat) : Int) ∈ g'.winners)
  wlt : ∀ x ∈ g.winners, ∃ p : Nat, p < n ∧ x = (p : Int)
theorem rot_least {n b : Nat} {f f' : Int → Option Int} (h : RotF n b f f') (hb : b < n) : leastF n f' = leastF n f := by
  obtain ⟨a1, a2, a3⟩ := leastF_le (n := n) (f := f)
  obtain ⟨b1, b2, b3⟩ := leastF_le (n := n) (f := f')
  have h1 : leastF n f' ≤ leastF n f := by
    rcases a3 with e | ⟨i, hi, e⟩
    · omega
    · exact b2 _ (tau_lt hi) _ ((h i hi).trans e)
  have h2 : leastF n f ≤ leastF n f' := by
    rcases b3 with e | ⟨q, hq, e⟩
    · omega
    · obtain ⟨p, hp, rfl⟩ := tau_onto hq hb
      exact a2 _ hp _ ((h p hp).symm.trans e)
  omega
theorem rot_has {n b : Nat} {f f' : Int → Option Int} (h : RotF n b f f') (hb : b < n) : hasF n f' = hasF n f := by
  rw [Bool.eq_iff_iff]
  unfold hasF
  simp only [List.any_eq_true, List.mem_range]
  constructor
  · rintro ⟨q, hq, e⟩
    obtain ⟨p, hp, rfl⟩ := tau_onto hq hb
    exact ⟨p, hp, by rw [← h p hp]; exact e⟩
  · rintro ⟨p, hp, e⟩
    exact ⟨tau n b p, tau_lt hp, by rw [h p hp]; exact e⟩
theorem rot_count {n b : Nat} {P P' : Nat → Bool} (hb : b < n) (h : ∀ p, p < n → P' (tau n b p) = P p) : (List.range n).countP P' = (List.range n).countP P := by
  have e1 : List.range n = List.range b ++ (List.range (n - b)).map (b + ·) := by rw [← List.range_add, show b + (n - b) = n by omega]
  have e2 : List.range n = List.range (n - b) ++ (List.range b).map ((n - b) + ·) := by rw [← List.range_add, show n - b + b = n by omega]
  rw [show (List.range n).countP P' = (List.range b ++ (List.range (n - b)).map (b + ·)).countP P' by rw [← e1], show (List.range n).countP P = (List.range (n - b) ++ (List.range b).map ((n - b) + ·)).countP P by rw [← e2]]
  rw [List.countP_append, List.countP_append, List.countP_map, List.countP_map, Nat.add_comm]
  congr 1
  · refine List.countP_congr fun p hp => ?_
    have hp := List.mem_range.1 hp
    have := h p (by omega)
    rw [tau_eq (by omega) hb, if_pos (by omega)] at this
    simp only [Function.comp]
    rw [← this, Nat.add_comm]
  · refine List.countP_congr fun p hp => ?_
    have hp := List.mem_range.1 hp
    have := h (n - b + p) (by omega)
    rw [tau_eq (by omega) hb, if_neg (by omega), show n - b + p + b - n = p by omega] at this
    simp only [Function.comp]
    rw [this]
theorem winS_len (n : Nat) (f : Int → Option Int) : (winS n f).length = (List.range n).countP (fun p => f (p : Nat) == some (leastF n f)) := by
  unfold winS
  rw [← List.countP_eq_length_filter, List.countP_map]
  rfl
theorem rot_wins {n b : Nat} {f f' : Int → Option Int} (h : RotF n b f f') (hb : b < n) : (winS n f').length = (winS n f).length ∧ ∀ p, p < n → ((p : Int) ∈ winS n f ↔ ((tau n b p : Nat) : Int) ∈ winS n f') := by
  constructor
  · rw [winS_len, winS_len, rot_least h hb]
    exact rot_count hb fun p hp => by rw [h p hp]
  · intro p hp
    rw [mem_winS hp, mem_winS (tau_lt hp), rot_least h hb, h p hp]
theorem winS_lt {n : Nat} {f : Int → Option Int} : ∀ x ∈ winS n f, ∃ p : Nat, p < n ∧ x = (p : Int) := by
  intro x hx
  unfold winS at hx
  obtain ⟨p, hp, rfl⟩ := List.mem_map.1 (List.mem_filter.1 hx).1
  exact ⟨p, List.mem_range.1 hp, rfl⟩
theorem rot_left {n b : Nat} {l l' : List Int} (h1 : l.length = n) (h2 : l'.length = n) (h : ∀ p, p < n → l'[tau n b p]? = l[p]?) : RotF n b (leftF l l.length) (leftF l' l'.length) := by
  intro p hp
  have := tau_lt (b := b) hp
  unfold leftF
  rw [if_pos (by omega), if_pos (by omega)]
  simpa using h p hp
theorem rot_begin {b : Nat} {r r' : Rul} (hr : r.ok = true) (h : RotR b r r') : RotG r.counts.length b (.begin r) (.begin r') := by
  have hf := Rul.ok_first hr
  have hl := h.len
  refine ⟨by simp [Gm.begin], by simp [Gm.begin, hl], fun p hp => ?_, by simp [Gm.begin], by simp [Gm.begin, hl], fun p hp => ?_, fun p _ => rfl, rfl, rfl, rfl, fun _ => ⟨r.first.toNat, by omega, ?_, ?_⟩, rfl, fun p hp => ?_, fun x hx => (by cases hx)⟩
  · simp only [Gm.begin, List.getElem?_map, h.cnt p hp]
  · simp only [Gm.begin, List.getElem?_map, h.cnt p hp]
  · simp only [Gm.begin]; omega
  · simp only [Gm.begin]
    rw [h.first, tau_int]
    congr 2
    omega
  · simp [Gm.begin]
theorem rot_fin {b : Nat} {r r' : Rul} (h : RotR b r r') {g g' : Gm} (hg : RotG r.counts.length b g g') : RotG r.counts.length b (g.fin r) (g'.fin r') := by
  have hb := h.lt
  have hL := rot_left hg.ll hg.ll' hg.left
  unfold Gm.fin
  rw [h.equal, h.rounds, h.len, hg.done, hg.round, rot_has hg.ended hb]
  unfold endS
  split
  · rename_i e1
    split at e1
    · cases e1
    · split at e1
      · cases e1
      · rename_i c1 c2
        rw [if_neg c1, if_neg c2]
        exact hg
  · rename_i f e1
    split at e1
    · rename_i c1
      cases e1
      rw [if_pos c1]
      obtain ⟨w1, w2⟩ := rot_wins hg.ended hb
      exact ⟨hg.ll, hg.ll', hg.left, hg.li, hg.li', hg.inn, hg.ended, rfl, rfl, rfl, fun h => (by cases h), w1, w2, winS_lt⟩
    · rename_i c1
      split at e1
      · rename_i c2
        cases e1
        rw [if_neg c1, if_pos c2]
        obtain ⟨w1, w2⟩ := rot_wins hL hb
        exact ⟨hg.ll, hg.ll', hg.left, hg.li, hg.li', hg.inn, hg.ended, rfl, rfl, rfl, fun h => (by cases h), w1, w2, winS_lt⟩
      · cases e1
theorem rot_put {b : Nat} {r r' : Rul} (h : RotR b r r') {g g' : Gm} (hg : RotG r.counts.length b g g') {p : Nat} (hp : p < r.counts.length) (x : Thr) : RotG r.counts.length b (g.put r p x) (g'.put r' (tau r.counts.length b p) x) := by
  have hb := h.lt
  have ht := tau_lt (b := b) hp
  have hset : ∀ {α : Type} (l l' : List α) (y : α), l.length = r.counts.length → l'.length = r.counts.length → (∀ q, q < r.counts.length → l'[tau r.counts.length b q]? = l[q]?) → ∀ q, q < r.counts.length → (l'.set (tau r.counts.length b p) y)[tau r.counts.length b q]? = (l.set p y)[q]? := by
    intro α l l' y h1 h2 h3 q hq
    by_cases e : p = q
    · subst e
      rw [List.getElem?_set_self (by omega), List.getElem?_set_self (by omega)]
    · rw [List.getElem?_set_ne (fun e2 => e (tau_inj hp hq hb e2)), List.getElem?_set_ne e]
      exact h3 q hq
  refine ⟨by simp [Gm.put, hg.ll], by simp [Gm.put, hg.ll'], hset _ _ _ hg.ll hg.ll' hg.left, by simp [Gm.put, hg.li], by simp [Gm.put, hg.li'], hset _ _ _ hg.li hg.li' hg.inn, fun q hq => ?_, ?_, ?_, hg.over, fun _ => ⟨(p + 1) % r.counts.length, Nat.mod_lt _ (by omega), ?_, ?_⟩, hg.wlen, hg.wins, hg.wlt⟩
  · simp only [Gm.put, wonF]
    split
    · unfold updF
      by_cases e : q = p
      · subst e; simp
      · rw [if_neg (by intro e2; exact e (tau_inj hq hp hb (by omega))), if_neg (by omega)]
        exact hg.ended q hq
    · exact hg.ended q hq
  · simp only [Gm.put, hg.done, h.len]
  · simp only [Gm.put, hg.done, hg.round, h.len]
  · simp only [Gm.put]
    rw [Int.natCast_emod, Int.natCast_add]
    rfl
  · simp only [Gm.put, h.len]
    rw [tau_succ, Int.natCast_emod, Int.natCast_add]
    rfl
theorem rot_play {b : Nat} {r r' : Rul} (hr : RotR b r r') : ∀ (l : List LV) (g g' : Gm) (i j : Int) (e : Gm), RotG r.counts.length b g g' → playL r g i l = (e, 0, 0) →
    ∃ e', playL r' g' j (l.map fun v => ⟨(v.player + (b : Int)) % (r.counts.length : Int), v.beds⟩) = (e', 0, 0) ∧ RotG r.counts.length b e e'
  | [], g, g', i, j, e, hg, h => by
    simp only [playL, Prod.mk.injEq] at h
    obtain ⟨rfl, _⟩ := h
    exact ⟨g', rfl, hg⟩
  | v :: l, g, g', i, j, e, hg, h => by
    have hb := hr.lt
    simp only [playL] at h
    split at h
    · simp only [Prod.mk.injEq] at h
      omega
    · rename_i hs
      have hs : (g.step r v.player v.beds).2.2 = 0 := by simpa using hs
      unfold Gm.step at hs h
      split at hs
      · rename_i hc
        exact absurd hs hc
      · rename_i hc
        have hc : chkS r.counts.length g.next g.over v.player = 0 := by simpa using hc
        rw [if_neg (by simpa using hc)] at h
        split at hs
        · rename_i ht
          exact absurd hs ht
        · rename_i ht
          rw [if_neg ht] at h
          simp only at h
          have ho : g.over = false := by
            unfold chkS at hc
            split at hc
            · cases hc
            · rename_i ho; simpa using ho
          obtain ⟨q, hq, e1, e2⟩ := hg.next ho
          have hv : v.player = (q : Int) := by
            unfold chkS at hc
            rw [if_neg (by simp [ho])] at hc
            split at hc
            · cases hc
            · split at hc
              · cases hc
              · rename_i hpn
                rw [← e1]
                simpa using hpn
          have htau := tau_lt (b := b) hq
          have hpl : (v.player + (b : Int)) % (r.counts.length : Int) = (tau r.counts.length b q : Nat) := by rw [hv, tau_int]
          have hcnt : cntOf r' (tau r.counts.length b q) = cntOf r q := by
            unfold cntOf
            rw [List.getD_eq_getElem?_getD, List.getD_eq_getElem?_getD, hr.cnt q hq]
          have hthr : g'.thr r' (tau r.counts.length b q) v.beds = g.thr r q v.beds := by
            unfold Gm.thr
            rw [hcnt, List.getD_eq_getElem?_getD, List.getD_eq_getElem?_getD, List.getD_eq_getElem?_getD, List.getD_eq_getElem?_getD, hg.left q hq, hg.inn q hq]
          rw [hv, show ((q : Nat) : Int).toNat = q by simp] at h ht
          have hstep : g'.step r' (tau r.counts.length b q : Nat) v.beds = ((g'.put r' (tau r.counts.length b q) (g.thr r q v.beds).1).fin r', -1, 0) := by
            have hc' : chkS r'.counts.length g'.next g'.over (tau r.counts.length b q : Nat) = 0 := by
              unfold chkS
              rw [hg.over, ho, e2, hr.len, if_neg (by simp), if_neg (by rw [Bool.not_eq_false, ins_one]; omega), if_neg (by simp)]
            unfold Gm.step
            rw [if_neg (by simp [hc']), show ((tau r.counts.length b q : Nat) : Int).toNat = tau r.counts.length b q by simp, hthr, if_neg ht]
          obtain ⟨e', h1, h2⟩ := rot_play hr l _ _ (i + 1) (j + 1) e (rot_fin hr (rot_put hr hg hq (g.thr r q v.beds).1)) h
          refine ⟨e', ?_, h2⟩
          simp only [List.map_cons, playL]
          rw [hpl, hstep]
          simpa using h1
end Go.Proofs.Ytocnglplhnhllaa
namespace Go.Proofs.Ytocnglplhnhllaa
open Go.RowKit Go.BigFrame
attribute [local go_sem] Later.cell Later.frozen Lat.cell Lat.frozen
/-- What stands in memory ahead of the two legs. -/
structure TurnW (r r' : Rul) (l l' : List LV) (k7 k8 k11 c1 c30 cx cl : Nat) (a1 a30 ax al : Option Addr) (w : World) : Prop where
  rul : Blk w k7 #[.slice a1 r.counts.length c1, .int .i64 r.first, .int .i64 r.rounds, .bool r.equal]
  cr : CntsAt w a1 r.counts
  cn : a1 = none → r.counts.length = 0 ∧ c1 = 0
  tal : w.cell? ⟨k8, 0, none⟩ = some (.slice a30 l.length c30)
  vis : VisIn w a30 l
  rul' : Blk w k11 #[.slice ax r'.counts.length cx, .int .i64 r'.first, .int .i64 r'.rounds, .bool r'.equal]
  cr' : CntsAt w ax r'.counts
  vis' : VisIn w al l'
set_option maxRecDepth 100000 in
set_option maxHeartbeats 16000000 in
theorem turned_legs (c : Code) (hc : codeFrom 16 (Try.f11.body.getD .skip) = some c) (r r' : Rul) (l l' : List LV) (g g' : Gm) (by_ k7 k8 k11 c1 c30 cx cl : Nat) (a1 a30 ax al : Option Addr) (off : List Int) (oa : Option Addr) (oc km : Nat) (nl : Nat) (y0 y1 y2 y3 y4 : Int) (w w1 : World)
    (HTW : Hid (TurnW r r' l l' k7 k8 k11 c1 c30 cx cl a1 a30 ax al w1)) (HG : Hid (RotG r.counts.length by_ g g')) (HPS : Hid (playS r l = (g, 0, 0))) (HPS' : Hid (playS r' l' = (g', 0, 0))) (HFI : Hid (∀ v ∈ l, v.fits)) (HFI' : Hid (∀ v ∈ l', v.fits)) (HLB : Hid (∀ v ∈ l, v.beds.length ≤ 1000000))
    (hn8 : r.counts.length ≤ 8) (hn0 : 0 < r.counts.length) (hby : by_ < r.counts.length) (hr'l : Hid (r'.counts.length = r.counts.length)) (hl60 : l.length ≤ 60) (hl60' : l'.length ≤ 60) (hwl : g.winners.length ≤ 8) (hnl : nl = l'.length)
    (HM : Hid (Blk w1 km #[.int .u8 y0, .int .u8 y1, .int .u8 y2, .int .u8 y3, .int .u8 y4])) (h1 : 0 ≤ y1 ∧ y1 ≤ 255) (h2 : 0 ≤ y2 ∧ y2 ≤ 255) (h3 : 0 ≤ y3 ∧ y3 ≤ 255) (h4 : 0 ≤ y4 ∧ y4 ≤ 255)
    (HO : Hid (CellsAt w1 .u8 oa off)) (ho : off.length ≤ 300) (HOB : Hid (∀ x ∈ off, 0 ≤ x ∧ x ≤ 255)) (HX : Hid (Ext w w1)) {s0 s2 s3 s4 s6 s13 s14 s15 s16 s17 s18 s19 s20 s21 s22 s23 s24 s25 s26 s27 s28 s29 s30 s31 s32 s33 s34 s35 s36 s37 s38 s39 s40 s41 s42 s43 s44 s45 s46 s47 s48 s49 s50 s51 s52 s53 s54 s55 s56 s57 s58 s59 s60 s61 s62 s63 s64 s65 s66 s67 s68 s69 s70 s71 s72 s73 s74 s75 s76 s77 s78 s79 s80 s81 s82 s83 s84 s85 s86 s87 s88 s89 s90 s91 s92 s93 s94 s95 s96 s97 s98 s99 s100 s101 s102 s103 s104 s105 s106 s107 s108 s109 s110 s111 s112 s113 s114 s115 s116 s117 s118 s119 s120 s121 s122 s123 s124 s125 s126 s127 s128 s129 s130 s131 s132 s133 s134 s135 s136 s137 s138 s139 s140 s141 s142 s143 s144 s145 s146 s147 s148 s149 s150 s151 s152 s153 s154 s155 s156 s157 s158 s159 s160 s161 s162 s163 s164 s165 s166 s167 s168 s169 s170 s171 s172 s173 s174 s175 s176 s177 s178 s179 s180 s181 s182 s183 s184 s185 s186 s187 s188 s189 s190 s191 s192 s193 s194 s195 s196 s197 s198 s199 s200 s201 s202 s203 s204 s205 s206 s207 s208 s209 s210 s211 s212 s213 s214 s215 s216 s217 s218 s219 s220 s221 s222 s223 s224 s225 s226 s227 s228 s229 s230 s231 s232 s233 s234 s235 s236 s237 s238 s239 s240 s241 s242 s243 s244 s245 s246 s247 s248 s249 s250 s251 s252 s253 s254 s255 s256 s257 s258 s259 s260 s261 s262 s263 s264 s265 s266 s267 s268 s269 s270 s271 s272 s273 s274 s275 s276 s277 s278 s279 s280 s281 s282 s283 s284 s285 s286 s287 s288 s289 s290 s291 s292 s293 s294 s295 s296 s297 s298 s299 s300 s301 s302 s303 s304 s305 s306 s307 s308 s309 s310 s311 s312 s313 s314 s315 s316 s317 s318 s319 s320 s321 s322 s323 s324 s325 s326 s327 s328 s329 s330 s331 s332 s333 s334 s335 s336 s337 s338 s339 s340 s341 s342 s343 s344 s345 s346 s347 s348 s349 s350 s351 s352 s353 s354 s355 s356 s357 s358 s359 s360 s361 s362 s363 s364 s365 s366 s367 s368 s369 s370 s371 s372 s373 s374 s375 s376 s377 s378 s379 s380 s381 : Value} :
    c.wp Try.prog (bodyPost Try.prog Try.f11 fun e w' => e = .returned (.bool true) ∧ Ext w w') { tmps := #[s0, .slice oa off.length oc, s2, s3, s4, .pointer (some ⟨km, 0, none⟩), s6, .pointer (some ⟨k7, 0, none⟩), .pointer (some ⟨k8, 0, none⟩), .int .i64 r.counts.length, .int .i64 by_, .pointer (some ⟨k11, 0, none⟩), .slice al nl cl, s13, s14, s15, s16, s17, s18, s19, s20, s21, s22, s23, s24, s25, s26, s27, s28, s29, s30, s31, s32, s33, s34, s35, s36, s37, s38, s39, s40, s41, s42, s43, s44, s45, s46, s47, s48, s49, s50, s51, s52, s53, s54, s55, s56, s57, s58, s59, s60, s61, s62, s63, s64, s65, s66, s67, s68, s69, s70, s71, s72, s73, s74, s75, s76, s77, s78, s79, s80, s81, s82, s83, s84, s85, s86, s87, s88, s89, s90, s91, s92, s93, s94, s95, s96, s97, s98, s99, s100, s101, s102, s103, s104, s105, s106, s107, s108, s109, s110, s111, s112, s113, s114, s115, s116, s117, s118, s119, s120, s121, s122, s123, s124, s125, s126, s127, s128, s129, s130, s131, s132, s133, s134, s135, s136, s137, s138, s139, s140, s141, s142, s143, s144, s145, s146, s147, s148, s149, s150, s151, s152, s153, s154, s155, s156, s157, s158, s159, s160, s161, s162, s163, s164, s165, s166, s167, s168, s169, s170, s171, s172, s173, s174, s175, s176, s177, s178, s179, s180, s181, s182, s183, s184, s185, s186, s187, s188, s189, s190, s191, s192, s193, s194, s195, s196, s197, s198, s199, s200, s201, s202, s203, s204, s205, s206, s207, s208, s209, s210, s211, s212, s213, s214, s215, s216, s217, s218, s219, s220, s221, s222, s223, s224, s225, s226, s227, s228, s229, s230, s231, s232, s233, s234, s235, s236, s237, s238, s239, s240, s241, s242, s243, s244, s245, s246, s247, s248, s249, s250, s251, s252, s253, s254, s255, s256, s257, s258, s259, s260, s261, s262, s263, s264, s265, s266, s267, s268, s269, s270, s271, s272, s273, s274, s275, s276, s277, s278, s279, s280, s281, s282, s283, s284, s285, s286, s287, s288, s289, s290, s291, s292, s293, s294, s295, s296, s297, s298, s299, s300, s301, s302, s303, s304, s305, s306, s307, s308, s309, s310, s311, s312, s313, s314, s315, s316, s317, s318, s319, s320, s321, s322, s323, s324, s325, s326, s327, s328, s329, s330, s331, s332, s333, s334, s335, s336, s337, s338, s339, s340, s341, s342, s343, s344, s345, s346, s347, s348, s349, s350, s351, s352, s353, s354, s355, s356, s357, s358, s359, s360, s361, s362, s363, s364, s365, s366, s367, s368, s369, s370, s371, s372, s373, s374, s375, s376, s377, s378, s379, s380, s381], defers := [] } w1 := by
  let Q2 : Exit → Act → World → Prop := bodyPost Try.prog Try.f11 fun _ _ => True
  simp only [Try.f11, Option.getD_some, codeFrom, ↓reduceIte, Nat.reduceEqDiff, Option.some.injEq] at hc
  subst hc
  subst hnl
  have H1 := Lib.hid h1
  have H2 := Lib.hid h2
  have H3 := Lib.hid h3
  have H4 := Lib.hid h4
  clear h1 h2 h3 h4
  have hru := fun W (hx : Ext w1 W) => law_rules r a1 c1 W (HTW.out.cr.ext hx) (by omega) HTW.out.cn
  have hvi := fun W (hx : Ext w1 W) => law_visits l a30 c30 W (HTW.out.vis.ext hx) (by omega) HLB.out
  have HRu := Lib.hid hru
  have HV0 := Lib.hid hvi
  have HLEN : Hid (l.length = l.length) := Lib.hid rfl
  have m0 := HTW.out.rul.cell 0 (v := .slice a1 r.counts.length c1) rfl
  have m1' := HTW.out.rul.cell 1 (v := .int .i64 r.first) rfl
  have m2' := HTW.out.rul.cell 2 (v := .int .i64 r.rounds) rfl
  have m3' := HTW.out.rul.cell 3 (v := .bool r.equal) rfl
  have hl7 := HTW.out.rul.lt
  have d0 := HTW.out.tal
  have hl8 := lt_of_cell d0
  simp only at hl8
  have hl11 := HTW.out.rul'.lt
  have hn7 : ¬ (w1.heap.size ≤ k7) := by omega
  have hn8' : ¬ (w1.heap.size ≤ k8) := by omega
  clear hru hvi
  go_upto_region 16 with fail
  refine wp_region_calls (by kernel_rfl) [.no, .of (RulS r) (rulW r) (rulW_shape r), .no, .no, .slc l.length, .of (PlaS 0 0) (plaW 0 0) (plaW_shape 0 0), .no, .no, .no, .no, .ptr, .any] w1.heap.size (fun c => max c.1.2.heap.size (max c.2.1.2.heap.size c.2.2.2.heap.size))
    (fun (c : (Nat × World) × (Nat × World) × (Nat × World)) L u => [bif L 1 then Res.snap c.1 else Res.none, bif L 1 then Res.pure (Ext w1 c.1.2 ∧ w1.heap.size ≤ c.1.1 ∧ RulV r (u 1) c.1.1 c.1.2) else Res.none, bif L 4 then Res.snap c.2.1 else Res.none, bif L 4 then Res.pure (Ext w1 c.2.1.2 ∧ w1.heap.size ≤ c.2.1.1 ∧ VisV l (u 4) c.2.1.1 c.2.1.2) else Res.none,
      bif L 5 then Res.snap c.2.2 else Res.none, bif L 5 then Res.pure (Ext w1 c.2.2.2 ∧ w1.heap.size ≤ c.2.2.1 ∧ PlaV (g, 0, 0) (u 5) c.2.2.1 c.2.2.2) else Res.none,
      bif L 10 then Res.blk (ptrAt (u 10)) (bif L 11 then #[aggAt 0 (aggAt 0 (u 5)), aggAt 1 (aggAt 0 (u 5)), aggAt 2 (aggAt 0 (u 5)), aggAt 3 (aggAt 0 (u 5)), aggAt 4 (aggAt 0 (u 5)), aggAt 5 (aggAt 0 (u 5)), aggAt 6 (aggAt 0 (u 5))] else #[.slice none 0 0, .slice none 0 0, .slice none 0 0, .int .i64 0, .int .i64 0, .bool false, .slice none 0 0]) else Res.none])
    ((0, w1), (0, w1), (0, w1)) (by kernel_rfl) (Nat.le_of_ble_eq_true rfl) (fun c L L' u hh => by simp only [hh 1 rfl, hh 4 rfl, hh 5 rfl, hh 10 rfl, hh 11 rfl]) (by simp) (fun _ => Frm.nones _ 7 w1) ?_
  intro T hT hne u hu
  obtain ⟨a21, c21, u1⟩ : RulS r (u 1) := hu 1 rfl
  obtain ⟨a24, c24, u4⟩ : ∃ a c, u 4 = .slice a l.length c := hu 4 rfl
  obtain ⟨pa0, pa1, pa2, pa3, pn0, pn1, pn2, pn3, pc0, pc1, pc2, pc3, pnx, prd, pov, u5⟩ : PlaS 0 0 (u 5) := hu 5 rfl
  obtain ⟨pk, u10⟩ : ∃ k, u 10 = .pointer (some ⟨k, 0, none⟩) := hu 10 rfl
  clear hu
  refine lx_next 1 (by rfl) (by decide) ?_
  dsimp only [List.take, List.drop]
  repeat (go_big_quiet_step (fail))
  refine wpQuiet_nil ?_
  refine lx_loud (by rfl) (by kernel_rfl) ?_ (fun K hK => ?_)
  · intro L w3 hL hd hcl hC hs
    obtain ⟨x, rfl⟩ := hC
    obtain ⟨c, hmc, hs⟩ := hs
    have hzs := x.size
    have h5 := hcl.off hL 40 5 (by kernel_rfl)
    have h11 := hcl.off hL 40 11 (by kernel_rfl)
    simp only [hL, h5, h11, cond_false] at hs
    have hX : Ext w1 x.world := Chg.to_ext (Ext.refl w1) x.chg (by rintro i ⟨_, h⟩; exact h)
    go_wp2_with fail
    refine (HRu.out _ hX).mono ?_
    rintro e w' ⟨a, cc', rfl, hO, hC, hx⟩
    have hsz' := hx.size
    have hmc2 : max c.1.2.heap.size (max c.2.1.2.heap.size c.2.2.2.heap.size) ≤ x.world.heap.size := hmc
    go_wp2
    exact lik_call x (Nat.le_refl _) ⟨_, _, rfl⟩ hs 0 1 (by decide) rfl rfl hx ((x.world.heap.size, w'), c.2) (by show max w'.heap.size (max c.2.1.2.heap.size c.2.2.2.heap.size) ≤ w'.heap.size; omega) (φ := Ext w1 w' ∧ w1.heap.size ≤ x.world.heap.size ∧ RulV r _ x.world.heap.size w') ⟨hX.trans hx, hzs, ⟨_, _, rfl, hO⟩⟩ (by first | (simp [upd, updv, h5, h11, hL]; done) | (simp [upd, updv, h5, h11, hL]; rfl))
  rw [u1]
  go_simp
  with_reducible refine hK _ ?_
  clear hK K
  refine lx_next 2 (by rfl) (by decide) ?_
  dsimp only [List.take, List.drop]
  repeat (go_big_quiet_step (fail))
  refine wpQuiet_nil ?_
  refine lx_loud (by rfl) (by kernel_rfl) ?_ (fun K hK => ?_)
  · intro L w3 hL hd hcl hC hs
    obtain ⟨x, rfl⟩ := hC
    obtain ⟨c, hmc, hs⟩ := hs
    have hzs := x.size
    have h5 := hcl.off hL 40 5 (by kernel_rfl)
    have h11 := hcl.off hL 40 11 (by kernel_rfl)
    simp only [hL, h5, h11, cond_false] at hs
    have hX : Ext w1 x.world := Chg.to_ext (Ext.refl w1) x.chg (by rintro i ⟨_, h⟩; exact h)
    go_wp2_with fail
    refine (HV0.out _ hX).mono ?_
    rintro e w' ⟨v, us, rfl, hO, hx⟩
    have hsz' := hx.size
    have hmc2 : max c.1.2.heap.size (max c.2.1.2.heap.size c.2.2.2.heap.size) ≤ x.world.heap.size := hmc
    have HO := Lib.hid hO
    have hsh := own_shape hO.outer
    have HSh := Lib.hid hsh
    clear hO hsh
    go_wp2
    exact lik_call x (Nat.le_refl _) HSh.out hs 2 3 (by decide) rfl rfl hx (c.1, (x.world.heap.size, w'), c.2.2) (by show max c.1.2.heap.size (max w'.heap.size c.2.2.2.heap.size) ≤ w'.heap.size; omega) (φ := Ext w1 w' ∧ w1.heap.size ≤ x.world.heap.size ∧ VisV l _ x.world.heap.size w') ⟨hX.trans hx, hzs, ⟨_, HO.out⟩⟩ (by first | (simp [upd, updv, h5, h11, hL]; done) | (simp [upd, updv, h5, h11, hL]; rfl))
  rw [u4]
  go_simp
  with_reducible refine hK _ ?_
  clear hK K
  refine lx_loud (by rfl) (by kernel_rfl) ?_ (fun K hK => ?_)
  · intro L w3 hL hd hcl hC hs
    obtain ⟨x, rfl⟩ := hC
    obtain ⟨c, hmc, hs⟩ := hs
    have hzs := x.size
    have h11 := hcl.off hL 40 11 (by kernel_rfl)
    have h1 := hd 1 (by kernel_rfl)
    have h4 := hd 4 (by kernel_rfl)
    simp only [hL, h11, h1, h4, cond_true, cond_false] at hs
    rw [u1, u4] at hs
    have hX : Ext w1 x.world := Chg.to_ext (Ext.refl w1) x.chg (by rintro i ⟨_, h⟩; exact h)
    have hmc2 : max c.1.2.heap.size (max c.2.1.2.heap.size c.2.2.2.heap.size) ≤ x.world.heap.size := hmc
    have hp1 : Ext w1 c.1.2 ∧ w1.heap.size ≤ c.1.1 ∧ RulV r (.agg #[.slice a21 r.counts.length c21, .int .i64 r.first, .int .i64 r.rounds, .bool r.equal]) c.1.1 c.1.2 := hs.get 1 rfl
    have hp4 : Ext w1 c.2.1.2 ∧ w1.heap.size ≤ c.2.1.1 ∧ VisV l (.slice a24 l.length c24) c.2.1.1 c.2.1.2 := hs.get 3 rfl
    have hr1 := (hp1.2.2.chg (snap_chg (hs.get 0 rfl) hp1.1 hX (by omega)) (fun k hk => hk.2)).reads.1
    have hv4 := hp4.2.2.chg (snap_chg (hs.get 2 rfl) hp4.1 hX (by omega)) (fun k hk => hk.2)
    obtain ⟨us4, hO4⟩ := hv4
    obtain ⟨va4, vc4, e4, hvis4⟩ := hO4.vis
    have hva : va4 = a24 := by injection e4 with e5 _ _; exact e5.symm
    subst hva
    have HJ5 := Lib.hid (leg_Play r a21 c21 l va4 c24 x.world hr1 (by omega) hvis4 HFI.out (by have := HLEN.out; omega) _ HPS.out)
    have HS5 := Lib.hid hs
    clear hp1 hp4 hr1 hO4 e4 hvis4 hs
    go_wp2_with fail
    refine HJ5.out.mono ?_
    rintro e w' ⟨v, rfl, hSt, hx⟩
    have hsz' := hx.size
    have hV : PlaV (g, 0, 0) (.tuple #[v, .int .i64 0, .int .i64 0]) x.world.heap.size w' := ⟨v, rfl, hSt⟩
    have hsh := hV.shape
    have HV' := Lib.hid hV
    have HSh := Lib.hid hsh
    clear hV hsh hSt
    go_wp2
    exact lik_call x (Nat.le_refl _) HSh.out HS5.out 4 5 (by decide) rfl rfl hx (c.1, c.2.1, (x.world.heap.size, w')) (by show max c.1.2.heap.size (max c.2.1.2.heap.size w'.heap.size) ≤ w'.heap.size; omega) (φ := Ext w1 w' ∧ w1.heap.size ≤ x.world.heap.size ∧ PlaV (g, 0, 0) _ x.world.heap.size w') ⟨hX.trans hx, hzs, HV'.out⟩ (by first | (simp [upd, updv, h11, h1, h4, hL, u1, u4]; done) | (simp [upd, updv, h11, h1, h4, hL, u1, u4]; rfl))
  rw [u5]
  go_simp
  with_reducible refine hK _ ?_
  clear hK K
  refine lx_next 4 (by rfl) (by decide) ?_
  dsimp only [List.take, List.drop]
  repeat (go_big_quiet_step (fail))
  refine wpQuiet_nil ?_
  refine lx_loud (by rfl) (by kernel_rfl) ?_ (fun K hK => ?_)
  · intro L w3 hL hd hcl hC hs
    obtain ⟨x, rfl⟩ := hC
    obtain ⟨c, hmc, hs⟩ := hs
    have hzs := x.size
    have h11 := hcl.off hL 40 11 (by kernel_rfl)
    simp only [hL, h11, cond_false] at hs
    go_wp2
    exact lik_set x (Nat.le_refl _) ⟨_, rfl⟩ hs 6 (r' := Res.blk x.world.heap.size #[.slice none 0 0, .slice none 0 0, .slice none 0 0, .int .i64 0, .int .i64 0, .bool false, .slice none 0 0]) rfl (((Ext.refl x.world).alloc _).chg _) (Blk.new _ _ _) (fun k hk => .inr (by rw [show k = x.world.heap.size from hk]; simp)) c hmc (by first | (simp [upd, updv, h11, hL]; done) | (simp [upd, updv, h11, hL]; rfl))
  rw [u10]
  go_simp
  with_reducible refine hK _ ?_
  clear hK K
  refine lx_loud (by rfl) (by kernel_rfl) ?_ (fun K hK => ?_)
  · intro L w3 hL hd hcl hC hs
    obtain ⟨x, rfl⟩ := hC
    obtain ⟨c, hmc, hs⟩ := hs
    have hzs := x.size
    have h5 := hcl.on 40 (hd 7 (by kernel_rfl)) (j := 7) (i := 5) (by kernel_rfl)
    have h10 := hd 10 (by kernel_rfl)
    simp only [hL, h10, cond_true, cond_false, h5] at hs
    rw [u10] at hs
    have hb : Blk x.world pk #[.slice none 0 0, .slice none 0 0, .slice none 0 0, .int .i64 0, .int .i64 0, .bool false, .slice none 0 0] := hs.get 6 rfl
    have hlt := hb.lt
    have q0 := hb.cell 0 (v := .slice none 0 0) rfl
    have f0 := hb.frozen 0
    have q1 := hb.cell 1 (v := .slice none 0 0) rfl
    have f1 := hb.frozen 1
    have q2 := hb.cell 2 (v := .slice none 0 0) rfl
    have f2 := hb.frozen 2
    have q3 := hb.cell 3 (v := .int .i64 0) rfl
    have f3 := hb.frozen 3
    have q4 := hb.cell 4 (v := .int .i64 0) rfl
    have f4 := hb.frozen 4
    have q5 := hb.cell 5 (v := .bool false) rfl
    have f5 := hb.frozen 5
    have q6 := hb.cell 6 (v := .slice none 0 0) rfl
    have f6 := hb.frozen 6
    go_wp2
    exact lik_set x (Nat.le_refl _) trivial hs 6 rfl (seven_chg (fun k => k = pk) _ rfl _ _ _ _ _ _ _) (r' := Res.blk pk #[.slice pa0 pn0 pc0, .slice pa1 pn1 pc1, .slice pa2 pn2 pc2, .int .i64 pnx, .int .i64 prd, .bool pov, .slice pa3 pn3 pc3]) (seven_set hb _ _ _ _ _ _ _) (fun _ hk => .inl hk) c hmc (by first | (simp [upd, updv, h10, hL, u10, u5, h5, aggAt, ptrAt]; done) | (simp [upd, updv, h10, hL, u10, u5, h5, aggAt, ptrAt]; rfl))
  go_simp
  with_reducible refine hK _ ?_
  clear hK K
  refine lx_next 2 (by rfl) (by decide) ?_
  dsimp only [List.take, List.drop]
  repeat (go_big_quiet_step (fail))
  refine wpQuiet_nil ?_
  refine lx_nil ?_
  intro x hs
  obtain ⟨c, hmc, hs⟩ := hs
  rw [u5, u10] at hs
  have hX : Ext w1 x.world := Chg.to_ext (Ext.refl w1) x.chg (by rintro i ⟨_, h⟩; exact h)
  have hmc2 : max c.1.2.heap.size (max c.2.1.2.heap.size c.2.2.2.heap.size) ≤ x.world.heap.size := hmc
  have hp5 : Ext w1 c.2.2.2 ∧ w1.heap.size ≤ c.2.2.1 ∧ PlaV (g, 0, 0) (.tuple #[.agg #[.slice pa0 pn0 pc0, .slice pa1 pn1 pc1, .slice pa2 pn2 pc2, .int .i64 pnx, .int .i64 prd, .bool pov, .slice pa3 pn3 pc3], .int .i64 0, .int .i64 0]) c.2.2.1 c.2.2.2 := hs.get 5 rfl
  have hj5 := (hp5.2.2.chg (snap_chg (hs.get 4 rfl) hp5.1 hX (by omega)) (fun k hk => hk.2)).reads
  have hbs : Blk x.world pk #[.slice pa0 pn0 pc0, .slice pa1 pn1 pc1, .slice pa2 pn2 pc2, .int .i64 pnx, .int .i64 prd, .bool pov, .slice pa3 pn3 pc3] := hs.get 6 rfl
  clear hs hmc hmc2 hp5 hT hne u1 u4 u5 u10
  generalize x.world = w2 at *
  clear x
  obtain ⟨⟨hp0, hC0⟩, -, -, ⟨hp3, hC3⟩, hpnx, hprd, hpov⟩ := hj5
  have e0 : pn0 = r.counts.length := hp0.trans HG.out.ll
  subst e0
  subst hp3 hpnx hprd hpov
  have HC0 := Lib.hid hC0
  have HC3 := Lib.hid hC3
  have HBS := Lib.hid hbs
  have HX2 := Lib.hid hX
  have HM2 := Lib.hid (HM.out.ext hX)
  have HO2 := Lib.hid (HO.out.ext hX)
  have hb11 := HTW.out.rul'.ext hX
  have n0 := hb11.cell 0 (v := .slice ax r'.counts.length cx) rfl
  have n1 := hb11.cell 1 (v := .int .i64 r'.first) rfl
  have n2 := hb11.cell 2 (v := .int .i64 r'.rounds) rfl
  have n3 := hb11.cell 3 (v := .bool r'.equal) rfl
  have hl11 := hb11.lt
  have hjp := leg_Play r' ax cx l' al cl w2 (HTW.out.cr'.ext hX) (by rw [hr'l.out]; omega) (HTW.out.vis'.ext hX).vis HFI'.out (by omega) _ HPS'.out
  have HJP := Lib.hid hjp
  clear hp0 hC0 hC3 hbs hX hb11 hjp m0 m1' m2' m3' d0 hl7 hl8 hn7 hn8' HV0 HRu HO HM
  go_wp2_with fail
  refine HJP.out.mono ?_
  rintro e w3 ⟨v, rfl, hSt, hx3⟩
  obtain ⟨b0, b1, b2, b3, d0, d1, d2, d3, hR⟩ := hSt.reads
  obtain rfl := hR.shape
  rw [HG.out.ll', HG.out.wlen, HG.out.over]
  have HR0 : Hid (CellsAt w3 .i64 b0 g'.left) := Lib.hid hR.left
  have HR3 : Hid (CellsAt w3 .i64 b3 g'.winners) := Lib.hid hR.winners
  have HX3 := Lib.hid hx3
  obtain ⟨ov, hov⟩ : ∃ ov, g.over = ov := ⟨_, rfl⟩
  obtain ⟨wn, hwn⟩ : ∃ wn, wn = g.winners.length := ⟨_, rfl⟩
  obtain ⟨n, hn⟩ : ∃ n, n = r.counts.length := ⟨_, rfl⟩
  obtain ⟨nx, hnx⟩ : ∃ nx, g.next = nx := ⟨_, rfl⟩
  obtain ⟨nx', hnx'⟩ : ∃ nx', g'.next = nx' := ⟨_, rfl⟩
  rw [hov, ← hwn, ← hn, hnx']
  rw [hov, ← hwn, ← hn, hnx] at HBS
  rw [← hn] at HG hn8 hn0 hby
  have hnext : ov = false → ∃ q : Nat, q < n ∧ nx = (q : Int) ∧ nx' = (tau n by_ q : Nat) := fun h => by
    rw [← hnx, ← hnx']
    exact HG.out.next (hov.trans h)
  have HNX := Lib.hid hnext
  have HWN := Lib.hid hwn
  have hwn8 : wn ≤ 8 := by omega
  clear hwl hR hSt hx3 hov hwn hn hnx hnx' hnext n0 n1 n2 n3 hl11 HJP hr'l HPS HPS' HFI HFI' HLB HTW HLEN
  go_upto_region 18 with fail
  generalize hW : World.alloc w3 _ = w4
  have hs4 : Ext w3 w4 := by rw [← hW]; exact (Ext.refl w3).alloc _
  have hb18 : Blk w4 w3.heap.size #[.slice b0 n d0, .slice b1 g'.darts.length d1, .slice b2 g'.inn.length d2, .int .i64 nx', .int .i64 g'.round, .bool ov, .slice b3 wn d3] := by rw [← hW]; exact Blk.new _ _ _
  obtain ⟨k18, hk18⟩ : ∃ k, k = w3.heap.size := ⟨_, rfl⟩
  rw [← hk18] at hb18 ⊢
  have hx24 := HX3.out.trans hs4
  have hbs := HBS.out.ext hx24
  have s0 := hbs.cell 0 (v := .slice pa0 n pc0) rfl
  have s3 := hbs.cell 3 (v := .int .i64 nx) rfl
  have s5 := hbs.cell 5 (v := .bool ov) rfl
  have s6 := hbs.cell 6 (v := .slice pa3 wn pc3) rfl
  have hls := hbs.lt
  have t0 := hb18.cell 0 (v := .slice b0 n d0) rfl
  have t3 := hb18.cell 3 (v := .int .i64 nx') rfl
  have t5 := hb18.cell 5 (v := .bool ov) rfl
  have t6 := hb18.cell 6 (v := .slice b3 wn d3) rfl
  have hlt18 := hb18.lt
  have HA0 := Lib.hid (HC0.out.ext hx24)
  have HA3 := Lib.hid (HC3.out.ext hx24)
  have HD0 := Lib.hid (HR0.out.ext hs4)
  have HD3 := Lib.hid (HR3.out.ext hs4)
  have HM4 := Lib.hid (HM2.out.ext hx24)
  have HO4 := Lib.hid (HO2.out.ext hx24)
  have HX4 := Lib.hid (HX.out.trans (HX2.out.trans hx24))
  clear hW hs4 hb18 hk18 hx24 hbs HBS HC0 HC3 HR0 HR3 HM2 HO2 HX2 HX3 HX
  go_cut [171] from 120 to 171 (fun b wx => b = .bool false ∧ Ext w4 wx)
  case first =>
    cases ov
    · obtain ⟨q, hq, e1, e2⟩ := HNX.out rfl
      subst e1 e2
      have hti := tau_int (n := n) (b := by_) (p := q)
      obtain ⟨tq, htq⟩ : ∃ tq, tau n by_ q = tq := ⟨_, rfl⟩
      rw [htq] at hti t3
      have hti' := hti.symm
      clear hti htq
      go_quiet (fail)
      go_wp2
      go_meet
      exact ⟨rfl, (Ext.refl w4).drewN _⟩
    · go_quiet (fail)
      go_wp2
      go_meet
      exact ⟨rfl, (Ext.refl w4).drewN _⟩
  case rest =>
    obtain ⟨rfl, hx5⟩ := hcut
    obtain ⟨w5, rfl⟩ : ∃ x, x = wc := ⟨_, rfl⟩
    have hsz5 := hx5.size
    replace s0 := hx5.cell s0
    replace s6 := hx5.cell s6
    replace t0 := hx5.cell t0
    replace t6 := hx5.cell t6
    replace hls : pk < w5.heap.size := by omega
    replace hlt18 : k18 < w5.heap.size := by omega
    have HX5 := Lib.hid hx5
    clear s3 s5 t3 t5 hx5 hsz5
    go_wp2_with fail
    go_loopw [21] (fun pp wr => ∃ p : Nat, p ≤ n ∧ pp = .int .i64 p ∧ Ext w5 wr) (fun pp _ => n - (intOf pp).toNat)
    case atStart => exact ⟨0, Nat.zero_le _, rfl, Ext.refl w5⟩
    case round =>
      obtain ⟨p, hp, rfl, hx⟩ := hrel
      have hsz := hx.size
      replace s0 := hx.cell s0
      replace s6 := hx.cell s6
      replace t0 := hx.cell t0
      replace t6 := hx.cell t6
      replace hls : pk < wr.heap.size := by omega
      replace hlt18 : k18 < wr.heap.size := by omega
      by_cases hlt : p < n
      · have hpl : p < g.left.length := by rw [HG.out.ll]; exact hlt
        have htl := tau_lt (b := by_) hlt
        have htl' : tau n by_ p < g'.left.length := by rw [HG.out.ll']; exact htl
        have heq : g'.left[tau n by_ p] = g.left[p] := by
          have h := HG.out.left p hlt
          rw [List.getElem?_eq_getElem htl', List.getElem?_eq_getElem hpl] at h
          exact Option.some.inj h
        have hti := (tau_int (n := n) (b := by_) (p := p)).symm
        obtain ⟨xb, xo, rfl, x0⟩ := HA0.out p hpl
        obtain ⟨yb, yo, rfl, y0⟩ := HD0.out _ htl'
        rw [heq] at y0
        generalize g.left[p] = z at *
        generalize tau n by_ p = tq at *
        replace x0 := hx.cell (HX5.out.cell x0)
        replace y0 := hx.cell (HX5.out.cell y0)
        have hxl := lt_of_cell x0
        have hyl := lt_of_cell y0
        simp only at hxl hyl
        clear heq s6 t6
        go_wp2
        go_quiet (fail)
        go_wp2
        go_roundw
        case rel => exact ⟨p + 1, by omega, by go_num, (by exact hx.drewN _)⟩
        case measure => simp [intOf]; omega
      · have HX6 := Lib.hid (HX5.out.trans hx)
        obtain ⟨w6, rfl⟩ : ∃ x, x = wr := ⟨_, rfl⟩
        clear hx s0 t0 hsz
        go_upto_block 6 with fail
        go_cut [22, 23, 24] from 192 to 225 (fun _ _ _ wx => Ext w6 wx)
        case rest =>
          have hx7 := HX6.out.trans hcut
          rename_i K0 a0
          refine a0 _ _ ?_
          exact turned_match _ (by kernel_rfl) off oa oc km y0 y1 y2 y3 y4 w wc (Lib.hid (HM4.out.ext hx7)) H1.out H2.out H3.out H4.out (Lib.hid (HO4.out.ext hx7)) ho HOB (Lib.hid (HX4.out.trans hx7))
        case first =>
          have hpk6 := hls
          go_wp2_with fail
          go_loopw [22] (fun ii wr => ∃ i : Nat, i ≤ wn ∧ ii = .int .i64 i ∧ Ext w6 wr) (fun ii _ => wn - (intOf ii).toNat)
          case atStart => exact ⟨0, Nat.zero_le _, rfl, Ext.refl w6⟩
          case round =>
            obtain ⟨i, hi, rfl, hxi⟩ := hrel
            have hszi := hxi.size
            replace s6 := hxi.cell s6
            replace t6 := hxi.cell t6
            replace hls : pk < wr.heap.size := by omega
            replace hlt18 : k18 < wr.heap.size := by omega
            clear hpk6
            have HXi := Lib.hid hxi
            obtain ⟨w7, rfl⟩ : ∃ x, x = wr := ⟨_, rfl⟩
            by_cases hlw : i < wn
            · have hiw : i < g.winners.length := by rw [← HWN.out]; exact hlw
              obtain ⟨q, hq, hqe⟩ := HG.out.wlt _ (List.getElem_mem hiw)
              have hmem := (HG.out.wins q hq).1 (by rw [← hqe]; exact List.getElem_mem hiw)
              have htl := tau_lt (b := by_) hq
              have hti := (tau_int (n := n) (b := by_) (p := q)).symm
              obtain ⟨xb, xo, rfl, x0⟩ := HA3.out i hiw
              rw [hqe] at x0
              generalize tau n by_ q = tq at *
              have HMem := Lib.hid hmem
              replace x0 := hxi.cell (HX6.out.cell x0)
              have hxl := lt_of_cell x0
              simp only at hxl
              clear hqe hmem
              go_wp2_with fail
              go_loopw [23, 24] (fun b kk wx => ∃ k : Nat, k ≤ wn ∧ kk = .int .i64 k ∧ b = .bool ((g'.winners.take k).any (fun x => x == (tq : Int))) ∧ Ext w7 wx) (fun _ kk _ => wn - (intOf kk).toNat)
              case atStart => exact ⟨0, Nat.zero_le _, rfl, rfl, Ext.refl w7⟩
              case round =>
                obtain ⟨k, hk, rfl, rfl, hxk⟩ := hrel
                have hszk := hxk.size
                replace s6 := hxk.cell s6
                replace t6 := hxk.cell t6
                replace x0 := hxk.cell x0
                replace hls : pk < wr.heap.size := by omega
                replace hlt18 : k18 < wr.heap.size := by omega
                replace hxl : xb < wr.heap.size := by omega
                obtain ⟨cc, hcc⟩ : ∃ cc, (g'.winners.take k).any (fun x => x == (tq : Int)) = cc := ⟨_, rfl⟩
                rw [hcc]
                have HCC := Lib.hid hcc
                clear hcc
                by_cases hkw : k < wn
                · have hkw' : k < g'.winners.length := by rw [HG.out.wlen, ← HWN.out]; exact hkw
                  have hsu : (g'.winners.take (k + 1)).any (fun x => x == (tq : Int)) = (cc || g'.winners[k] == (tq : Int)) := by
                    rw [List.take_succ_eq_append_getElem hkw', List.any_append, HCC.out]
                    simp
                  have HSU := Lib.hid hsu
                  obtain ⟨yb, yo, rfl, y0⟩ := HD3.out k hkw'
                  replace y0 := hxk.cell (hxi.cell (HX6.out.cell y0))
                  have hyl := lt_of_cell y0
                  simp only at hyl
                  clear hsu
                  generalize g'.winners[k] = z at *
                  cases cc
                  · go_wp2
                    go_quiet (fail)
                    go_wp2
                    go_roundw
                    case rel => exact ⟨k + 1, by omega, by go_num, by rw [HSU.out, Bool.false_or], (by exact hxk.drewN _)⟩
                    case measure => simp [intOf]; omega
                  · go_wp2
                    go_quiet (fail)
                    go_wp2
                    go_roundw
                    case rel => exact ⟨k + 1, by omega, by go_num, by rw [HSU.out, Bool.true_or], (by exact hxk.drewN _)⟩
                    case measure => simp [intOf]; omega
                · have hcc : cc = true := by
                    rw [← HCC.out, List.take_of_length_le (by rw [HG.out.wlen, ← HWN.out]; omega)]
                    exact List.any_eq_true.2 ⟨_, HMem.out, by simp⟩
                  subst hcc
                  have HXk := Lib.hid (HXi.out.trans hxk)
                  go_wp2
                  go_roundw
                  case rel => exact ⟨i + 1, by omega, by go_num, HXk.out⟩
                  case measure => simp [intOf]; omega
            · go_wp2
              go_meet
              exact HXi.out
end Go.Proofs.Ytocnglplhnhllaa
