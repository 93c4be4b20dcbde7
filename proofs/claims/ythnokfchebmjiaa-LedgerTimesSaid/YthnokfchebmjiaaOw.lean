/- The walk of LedgerOnce. Conditions: none. -/
import Derived.Test.YthnokfchebmjiaaOn
import Derived.Test.YthnokfchebmjiaaLb
namespace Go.Proofs.Ythnokfchebmjiaa
open Go.RowKit

/-- A block of cells. -/
def tB (b : Nat) (vs : List Value) (t : TypeId) : Thing := ⟨fun w => IsBlk w b vs t, [b], fun _ _ _ h hk hn => h.touch hk (hn _ (by simp)), fun _ h g hg => by simp at hg; subst hg; exact h.lt⟩
/-- Ranges in a slice of the law's own. -/
def tR (v : Value) (R : List Rng) : Thing := ⟨fun w => Sl w 35 2 v R.length (cr R), own v, fun _ _ _ h hk hn => h.touch hk hn, fun _ h => h.lt⟩
section
variable {w wk w' : World} {p : Nat} {σ : Ldg} {L : List Thing}
theorem ll_ackR {v : Value} {R : List Rng} (h : LL w wk p σ (tR v R :: L)) (now delay : Nat) (hL : R.length ≤ 100000) (hb : ackBad σ R = false) (hnow : now ≤ 1099511627776) (hdel : delay < 18446744073709551616) :
    Calls Try.prog 12 #[.pointer (some ⟨p, 0, none⟩), v, .int .u64 (now : Int), .int .u64 (delay : Int)] wk fun e w2 => ∃ v1 v2, e = .returned (.tuple #[v1, v2, .int .i64 0]) ∧ LL w w2 p (lostS (ackS σ R now delay) now) (tS v1 (pns (goneA σ R)) :: tS v2 (pns (lostL (ackS σ R now delay) now)) :: tR v R :: L) := by
  obtain ⟨F, h⟩ := h
  have hlt := h.head.lt
  have hr : Sl wk 35 2 v R.length (cr R) := h.get (List.mem_cons_of_mem _ (List.mem_cons_self ..))
  have hd := (List.pairwise_cons.1 h.2.2).1 (tR v R) (by simp)
  obtain ⟨ar, c, rfl, _⟩ := hr.form
  refine (ack_good wk p F σ ar c R now delay h.head hr.rd (fun g hg => ⟨hr.lt g hg, fun hm => hd g hm hg⟩) hL hb hnow hdel).mono ?_
  rintro e w2 ⟨v1, v2, rfl, k1, k2, ⟨F', g1, g2, g3⟩, k3, k4⟩
  rw [← pns_len] at k1 k2
  refine ⟨v1, v2, rfl, F', h.go g2 [tL p _ F', tS v1 _, tS v2 _] ?_ ?_⟩
  · intro N hN
    simp at hN
    rcases hN with rfl | rfl | rfl
    · exact ⟨g1, fun g hg => .inl (g3 g hg)⟩
    · exact ⟨k1, fun g hg => .inr (k3 g hg)⟩
    · exact ⟨k2, fun g hg => .inr (k4 g hg).1⟩
  · simp
    refine ⟨⟨fun g hg hm => ?_, fun g hg hm => ?_⟩, fun g hg hm => ?_⟩
    · have := hlt g (g3 g hg)
      have := k3 g hm
      omega
    · have := hlt g (g3 g hg)
      have := (k4 g hm).1
      omega
    · exact (k4 g hm).2 hg
theorem LL.blk {b : Nat} {vs : List Value} {t : TypeId} (h : LL w wk p σ L) (hT : tB b vs t ∈ L) : IsBlk wk b vs t := h.get hT
theorem ll_lay (h : LL w wk p σ L) (vs : List Value) (t : TypeId) : LL w (wk.alloc (.cells vs.toArray t)) p σ (tB wk.heap.size vs t :: L) :=
  h.more ((Touch.refl _ _).alloc _) (tB wk.heap.size vs t) (IsBlk.new wk vs t) (fun g hg => by simp [tB] at hg; omega)
end
set_option maxRecDepth 100000 in
theorem once_many (a : Option Addr) (n c : Nat) (w : World) (hn : 50 < n) : Calls Try.prog 5 #[.slice a n c] w fun e w' => e = .returned (.bool true) ∧ Touch [] w w' := by
  have hn1 : (50 : Int) < (n : Int) := by omega
  go_enter Try.func5, Try.ntmps5
  go_wp2_with fail
  refine (known_any w).mono ?_
  rintro e w0 ⟨rfl, hT0⟩
  have HT0 := Lib.hid hT0
  clear hT0
  go_wp2_with fail
  go_ret
  exact ⟨rfl, HT0.out⟩

set_option maxHeartbeats 8000000 in
set_option maxRecDepth 100000 in
theorem once_walk (a : Option Addr) (c : Nat) (l : List Act8) (w : World) (hl : IsActs w a l) (h50 : l.length ≤ 50) :
    Calls Try.prog 5 #[.slice a l.length c] w fun e w' => e = .returned (.bool true) ∧ Touch [] w w' := by
  have HL := Lib.hid hl
  have hm' : ¬ (50 : Int) < (l.length : Int) := by omega
  clear hl
  have hmm := @run_makeMap Try.prog
  go_enter Try.func5, Try.ntmps5
  go_wp2_with fail
  refine (known_any w).mono ?_
  rintro e w0 ⟨rfl, hT0⟩
  have HT0 := Lib.hid hT0
  clear hT0
  go_wp2_with fail
  refine (ll_new [] (Sep.nil HT0.out)).mono ?_
  rintro e w1 ⟨p, rfl, h⟩
  have A1 := Lib.hid (ll_map (K := ki) h)
  clear h
  go_wp2_with fail
  obtain ⟨mb, hmb⟩ : ∃ mb, mb = w1.heap.size := ⟨_, rfl⟩
  obtain ⟨W1, hW1⟩ : ∃ W, W = w1.alloc (.map #[] 0) := ⟨_, rfl⟩
  rw [← hmb, ← hW1] at A1
  rw [← hmb, ← hW1]
  clear hmb hW1 hmm
  go_loopw [5, 6, 7] (fun pv nv i wr => ∃ (k pn now nm : Nat) (σ : Ldg) (f : Nat → Option Int), k ≤ l.length ∧ pv = .int .u64 (pn : Int) ∧ nv = .int .u64 (now : Int) ∧ i = .int .i64 (k : Int) ∧ pn ≤ k ∧ now ≤ 40 * k ∧ nm ≤ 100 * k ∧ Hid (LL w wr p σ [tN ki mb nm f]) ∧ Hid (OMid pn σ f [])) (fun _ _ i _ => l.length - (intOf i).toNat)
  case atStart => exact ⟨0, 0, 0, 0, led0, fun _ => none, by omega, rfl, rfl, rfl, by omega, by omega, by omega, A1, Lib.hid OMid.zero⟩
  case round =>
    obtain ⟨k, pn, now, nm, σ, f, hk, rfl, rfl, rfl, hpn, hnow, hnm, HJ, HI⟩ := hrel
    by_cases hlt : k < l.length
    · have hlt' : (k : Int) < (l.length : Int) := by omega
      obtain ⟨x, hx⟩ : ∃ x, l[k]? = some x := ⟨_, List.getElem?_eq_getElem hlt⟩
      rcases HL.out with h0 | ⟨bb, off, rfl, hbb, hc⟩
      · subst h0; simp at hlt
      obtain ⟨hce, ⟨xr, xg⟩, y0, y1, y2, y3, y4, y5⟩ := hc k x hx
      obtain ⟨xa, xc, hxv⟩ := xr.form
      have hT := HJ.out.touch
      have x0 : wr.cell? ⟨bb, off + k * 8, none⟩ = some (.int .u8 (x.what : Int)) := (hT.cellAt _ hbb (by simp)).trans (hce 0 (by omega))
      have x1 : wr.cell? ⟨bb, off + k * 8 + 1, none⟩ = some (.int .u8 (x.gap : Int)) := (hT.cellAt _ hbb (by simp)).trans (hce 1 (by omega))
      have x2 : wr.cell? ⟨bb, off + k * 8 + 2, none⟩ = some (.int .u8 (x.size : Int)) := (hT.cellAt _ hbb (by simp)).trans (hce 2 (by omega))
      have x3 : wr.cell? ⟨bb, off + k * 8 + 3, none⟩ = some (.bool x.eager) := (hT.cellAt _ hbb (by simp)).trans (hce 3 (by omega))
      have x4 : wr.cell? ⟨bb, off + k * 8 + 4, none⟩ = some x.v := (hT.cellAt _ hbb (by simp)).trans (hce 4 (by omega))
      have x5 : wr.cell? ⟨bb, off + k * 8 + 5, none⟩ = some (.bool x.raw) := (hT.cellAt _ hbb (by simp)).trans (hce 5 (by omega))
      have x6 : wr.cell? ⟨bb, off + k * 8 + 6, none⟩ = some (.int .u16 (x.time : Int)) := (hT.cellAt _ hbb (by simp)).trans (hce 6 (by omega))
      have x7 : wr.cell? ⟨bb, off + k * 8 + 7, none⟩ = some (.int .u16 (x.delay : Int)) := (hT.cellAt _ hbb (by simp)).trans (hce 7 (by omega))
      rw [hxv] at x4 xr
      have XR := Lib.hid xr
      have hbl : bb < wr.heap.size := Nat.lt_of_lt_of_le hbb hT.size
      clear hc hx hce xr xg hxv hT hbb
      go_upto_region 12 with fail
      obtain ⟨W, hW⟩ : ∃ W, W = wr.alloc (.cells #[.int .u8 (x.what : Int), .int .u8 (x.gap : Int), .int .u8 (x.size : Int), .bool x.eager, .slice xa x.R.length xc, .bool x.raw, .int .u16 (x.time : Int), .int .u16 (x.delay : Int)] 56) := ⟨_, rfl⟩
      rw [← hW]
      obtain ⟨ab, hab⟩ : ∃ ab, ab = wr.heap.size := ⟨_, rfl⟩
      obtain ⟨acl, hacl⟩ : ∃ acl, acl = [Value.int .u8 (x.what : Int), .int .u8 (x.gap : Int), .int .u8 (x.size : Int), .bool x.eager, .slice xa x.R.length xc, .bool x.raw, .int .u16 (x.time : Int), .int .u16 (x.delay : Int)] := ⟨_, rfl⟩
      have HX : Hid (LL w W p σ (tB ab acl 56 :: [tN ki mb nm f])) := Lib.hid (by rw [hW, hab, hacl]; exact ll_lay HJ.out _ 56)
      have HAC := Lib.hid hacl
      rw [← hab]
      clear hW HJ x0 x1 x2 x3 x4 x5 x6 x7 hbl hab hacl
      have eb := HX.out.blk (b := ab) (vs := acl) (t := 56) (by simp)
      have e0 := eb.cell 0
      have e4 := eb.cell 4
      have e6 := eb.cell 6
      have el := eb.lt
      rw [HAC.out] at e0 e4 e6
      simp only [List.getElem?_cons_zero, List.getElem?_cons_succ] at e0 e4 e6
      clear eb
      by_cases h6 : (6 : Int) < (x.R.length : Int)
      · have HT := Lib.hid HX.out.touch
        go_wp2_with fail
        go_ret
        exact ⟨rfl, HT.out⟩
      have HR6 : Hid (x.R.length ≤ 6) := Lib.hid (by omega)
      obtain ⟨tm, htm⟩ : ∃ tm, tm = x.time % 40 := ⟨_, rfl⟩
      have htm40 : tm < 40 := by omega
      have i6 : (x.time : Int) % 40 = (tm : Int) := by omega
      obtain ⟨now2, hnow2⟩ : ∃ now2, now2 = now + tm := ⟨_, rfl⟩
      have i7 : (now : Int) + (tm : Int) = (now2 : Int) := by omega
      have hnw2 : now2 ≤ 40 * (k + 1) := by omega
      have w6 : IntKind.u64.wrap (tm : Int) = (tm : Int) := IntWalk.u64_in _ (by omega)
      clear htm hnow2
      have hr5 : (x.what : Int) % 5 = 0 ∨ (x.what : Int) % 5 = 1 ∨ (x.what : Int) % 5 = 2 ∨ (x.what : Int) % 5 = 3 ∨ (x.what : Int) % 5 = 4 := by omega
      go_upto_block 2 with fail
      go_cut [5, 9, 10, 11, 12, 13, 14, 15] from 27 to 170 (fun s5 s9 s10 s11 s12 s13 s14 s15 wx => ∃ (pn' nm' : Nat) (σ' : Ldg) (f' : Nat → Option Int) (ov : List Nat) (va : Option Addr) (vc : Nat), s5 = .int .u64 (pn' : Int) ∧ s9 = .slice va ov.length vc ∧ pn' ≤ k + 1 ∧ nm' ≤ 100 * k + 1 ∧ Hid (LL w wx p σ' [tS (.slice va ov.length vc) ov, tN ki mb nm' f']) ∧ Hid (OMid pn' σ' f' ov))
      case first =>
        rcases hr5 with hr | hr | hr | hr | hr
        · skip
          have HPN : Hid (pn ≤ 100) := Lib.hid (by omega)
          go_wp2_with fail
          refine (show Calls Try.prog 10 #[.pointer (some ⟨p, 0, none⟩), .agg #[.int .u64 (pn : Int), .int .u64 (now2 : Int), .int .i64 1, .bool true]] W _ from ll_send HX.out ⟨pn, now2, 1, true⟩ ⟨by show pn < _; omega, by show now2 < _; omega, by show 1 < _; decide⟩ (by show now2 ≤ _; omega) (by show 1 ≤ _; decide) (by rw [HI.out.tot]; omega)).mono ?_
          rw [HI.out.fine HPN.out now2]
          rintro e w3 ⟨rfl, h⟩
          have A3 : Hid (LL w w3 p (sentS σ ⟨pn, now2, 1, true⟩) [tN ki mb nm f]) := Lib.hid (LL.drop h)
          clear h
          obtain ⟨w4, hst, hB⟩ := ll_put A3.out pn (by omega) 1 (by unfold maxLen; omega)
          have hst' : (Instr.mapUpdate 53 (.map (some mb)) (.int .u64 (pn : Int)) (.int .i64 1)).run Try.prog w3 = .ok () w4 := hst
          have HB := Lib.hid hB
          clear hst hB e0 e4 e6 el
          go_wp2_with fail
          go_meet
          case rel => exact ⟨pn + 1, nm + 1, _, _, [], none, 0, by go_num, rfl, by omega, by omega, Lib.hid (HB.out.more (Touch.refl _ _) (tS (.slice none 0 0) []) (Sl.nil _ _ _) (by simp [tS])), Lib.hid (HI.out.send HX.out.ok HPN.out now2)⟩
        · skip
          have HPN : Hid (pn ≤ 100) := Lib.hid (by omega)
          go_wp2_with fail
          refine (show Calls Try.prog 10 #[.pointer (some ⟨p, 0, none⟩), .agg #[.int .u64 (pn : Int), .int .u64 (now2 : Int), .int .i64 1, .bool true]] W _ from ll_send HX.out ⟨pn, now2, 1, true⟩ ⟨by show pn < _; omega, by show now2 < _; omega, by show 1 < _; decide⟩ (by show now2 ≤ _; omega) (by show 1 ≤ _; decide) (by rw [HI.out.tot]; omega)).mono ?_
          rw [HI.out.fine HPN.out now2]
          rintro e w3 ⟨rfl, h⟩
          have A3 : Hid (LL w w3 p (sentS σ ⟨pn, now2, 1, true⟩) [tN ki mb nm f]) := Lib.hid (LL.drop h)
          clear h
          obtain ⟨w4, hst, hB⟩ := ll_put A3.out pn (by omega) 1 (by unfold maxLen; omega)
          have hst' : (Instr.mapUpdate 53 (.map (some mb)) (.int .u64 (pn : Int)) (.int .i64 1)).run Try.prog w3 = .ok () w4 := hst
          have HB := Lib.hid hB
          clear hst hB e0 e4 e6 el
          go_wp2_with fail
          go_meet
          case rel => exact ⟨pn + 1, nm + 1, _, _, [], none, 0, by go_num, rfl, by omega, by omega, Lib.hid (HB.out.more (Touch.refl _ _) (tS (.slice none 0 0) []) (Sl.nil _ _ _) (by simp [tS])), Lib.hid (HI.out.send HX.out.ok HPN.out now2)⟩
        · skip
          obtain ⟨i0, hi0, hz0, hz1, hz2⟩ := info_parts info38
          obtain ⟨i1, hi1, hy0, hy1, hy2⟩ := info_parts info28
          have HX1 : Hid (LL w W p σ [tR (.slice none 0 0) ((x.R.take 0).map (rngO pn)), tB ab acl 56, tN ki mb nm f]) := Lib.hid (HX.out.more (Touch.refl _ _) (tR (.slice none 0 0) []) (show Sl W 35 2 (.slice none 0 0) _ (cr []) from Sl.nil W 35 2) (by simp [tR]))
          have HPN : Hid (pn ≤ 100) := Lib.hid (by omega)
          clear e0 e6
          go_upto_block 3 with fail
          clear i6 i7 w6 hr
          go_cut [10, 11, 12] from 69 to 104 (fun s10 s11 s12 wx => ∃ (ra : Option Addr) (rc : Nat) (RR : List Rng), s10 = .slice ra RR.length rc ∧ Hid (RR.length ≤ 6) ∧ Hid (ackBad σ RR = false) ∧ Hid (LL w wx p σ [tR (.slice ra RR.length rc) RR, tB ab acl 56, tN ki mb nm f]))
          case first =>
            by_cases hp0 : ¬ (0 : Int) < (pn : Int)
            · have HG := Lib.hid (HI.out.good HX.out.ok [] (by simp))
              go_wp2_with fail
              go_loopw [10, 11] (fun s10 s11 wx => s10 = .slice none 0 0 ∧ s11 = .int .i64 0 ∧ wx = W) (fun _ _ _ => 0)
              case atStart => exact ⟨rfl, rfl, rfl⟩
              case round =>
                obtain ⟨rfl, rfl, rfl⟩ := hrel
                by_cases hr0 : (0 : Int) < (x.R.length : Int)
                · go_wp2_with fail
                  go_meet
                  case rel => exact ⟨none, 0, [], rfl, Lib.hid (by simp), HG, HX1⟩
                · go_wp2_with fail
                  go_meet
                  case rel => exact ⟨none, 0, [], rfl, Lib.hid (by simp), HG, HX1⟩
            · have hp0' : (0 : Int) < (pn : Int) := by omega
              clear hp0
              have hp1 : ((pn : Int) == 0) = false := beq_eq_false_iff_ne.2 (by omega)
              have HG := fun R' => HI.out.good HX.out.ok (R'.map (rngO pn)) (rngO_ok pn (by omega) R')
              have HGH := Lib.hid HG
              clear HG
              go_wp2_with fail
              go_loopw [10, 11] (fun s10 s11 wx => ∃ (j : Nat) (ra : Option Addr) (rc : Nat), j ≤ x.R.length ∧ s10 = .slice ra j rc ∧ s11 = .int .i64 (j : Int) ∧ Hid (LL w wx p σ [tR (.slice ra j rc) ((x.R.take j).map (rngO pn)), tB ab acl 56, tN ki mb nm f])) (fun _ s11 _ => x.R.length - (intOf s11).toNat)
              case atStart => exact ⟨0, none, 0, by omega, rfl, rfl, HX1⟩
              case round =>
                obtain ⟨j, ra, rc, hj, rfl, rfl, HA⟩ := hrel
                have eb := HA.out.blk (b := ab) (vs := acl) (t := 56) (by simp)
                have e4 := eb.cell 4
                have el := eb.lt
                rw [HAC.out] at e4
                simp only [List.getElem?_cons_zero, List.getElem?_cons_succ] at e4
                clear eb
                have HRL : Hid (((x.R.take j).map (rngO pn)).length = j) := Lib.hid (by rw [List.length_map, List.length_take]; omega)
                by_cases hlj : j < x.R.length
                · have hlj' : (j : Int) < (x.R.length : Int) := by omega
                  have hS := HA.out.get (List.mem_cons_self ..)
                  have hS : Sl wr 35 2 (.slice ra j rc) j (cr ((x.R.take j).map (rngO pn))) := by have h1 : Sl wr 35 2 (.slice ra j rc) _ (cr _) := hS; rw [HRL.out] at h1; exact h1
                  have HS := Lib.hid hS
                  obtain ⟨z, hz⟩ : ∃ z, x.R[j]? = some z := ⟨_, List.getElem?_eq_getElem hlj⟩
                  obtain ⟨g, o, rfl⟩ := XR.out.some (by omega)
                  obtain ⟨c1, c2, hg⟩ := (XR.out.touch HA.out.touch (by simp)).two rfl j z hz
                  have hz12 := y5 z (List.mem_of_getElem? hz)
                  obtain ⟨z1, z2⟩ := z
                  simp only at c1 c2 hz12
                  obtain ⟨m1, hm1⟩ : ∃ m1, m1 = z1 % pn := ⟨_, rfl⟩
                  obtain ⟨m2, hm2⟩ : ∃ m2, m2 = z2 % 3 := ⟨_, rfl⟩
                  have hm1p : m1 < pn := by rw [hm1]; exact Nat.mod_lt _ (by omega)
                  have hm2p : m2 < 3 := by omega
                  have k1 : (z1 : Int) % (pn : Int) = (m1 : Int) := by rw [hm1, Int.natCast_emod]
                  have k2 : (z2 : Int) % 3 = (m2 : Int) := by omega
                  have HXS : Hid ((x.R.take (j + 1)).map (rngO pn) = (x.R.take j).map (rngO pn) ++ [(m1, min (m1 + m2) (pn - 1))]) := Lib.hid (by rw [List.take_add_one, hz, List.map_append]; simp [rngO, hm1, hm2])
                  obtain ⟨m3, hm3⟩ : ∃ m3, m3 = min (m1 + m2) (pn - 1) := ⟨_, rfl⟩
                  rw [← hm3] at HXS
                  have k3 : min ((m1 : Int) + (m2 : Int)) ((pn : Int) - 1) = (m3 : Int) := by omega
                  clear hS hz hz12 hm1 hm2 hm3
                  go_wp2_with (at_builtin; refine wpList_append_sl _ rfl _ _ 36 rfl 35 i0 _ 2 16 under27 hi0 hz0 hz1 hz2 rfl (by omega) (.slice ra j rc) j (cr ((x.R.take j).map (rngO pn))) rfl (HS.out.touch ((Touch.refl [] _).alloc _) (by simp)) _ 1 (cr [(m1, m3)]) rfl (.new _ (m1, m3)) (cr_one _) (by have := HR6.out; unfold maxLen; omega) (by have := HR6.out; omega) fun a3 c3 w3 k1 k2 k3 k4 => ?_)
                  have HN : Hid (LL w w3 p σ [tR (.slice a3 (j + 1) c3) ((x.R.take (j + 1)).map (rngO pn)), tB ab acl 56, tN ki mb nm f]) := Lib.hid ((HA.out.keep ((Touch.refl _ _).alloc _)).step (N := tR (.slice a3 (j + 1) c3) ((x.R.take (j + 1)).map (rngO pn))) k2 (by
                    show Sl _ _ _ _ ((x.R.take (j + 1)).map (rngO pn)).length (cr _)
                    rw [HXS.out, List.length_append, HRL.out, cr_append]
                    exact k1) k3)
                  clear k1 k2 k3 k4
                  go_roundw
                  case rel => exact ⟨j + 1, a3, c3, by omega, rfl, by go_num, HN⟩
                  case measure => simp [intOf]; omega
                · obtain rfl : j = x.R.length := by omega
                  go_wp2_with fail
                  go_meet
                  case rel => exact ⟨ra, rc, (x.R.take x.R.length).map (rngO pn), by rw [HRL.out], Lib.hid (by rw [HRL.out]; exact HR6.out), Lib.hid (HGH.out _), by rw [HRL.out]; exact HA⟩
          case rest =>
          obtain ⟨ra, rc, RR, rfl, HRL, HAB, HA⟩ := hcut
          go_wp2_with fail
          refine (show Calls Try.prog 12 #[.pointer (some ⟨p, 0, none⟩), .slice ra RR.length rc, .int .u64 (now2 : Int), .int .u64 0] wc _ from ll_ackR HA.out now2 0 (by have := HRL.out; omega) HAB.out (by omega) (by decide)).mono ?_
          rintro e w3 ⟨v1, v2, rfl, h⟩
          have r1 : Sl w3 28 1 v1 _ (us (pns (goneA σ RR))) := h.get (List.mem_cons_self ..)
          have r2 : Sl w3 28 1 v2 _ (us (pns (lostL (ackS σ RR now2 0) now2))) := h.get (List.mem_cons_of_mem _ (List.mem_cons_self ..))
          obtain ⟨a1, c1, rfl, _⟩ := r1.form
          obtain ⟨a2, c2, rfl, _⟩ := r2.form
          have R1 := Lib.hid r1
          have R2 := Lib.hid r2
          have A3 := Lib.hid h
          have HOA := Lib.hid (HI.out.ack HX.out.ok RR now2 0)
          have hln := HOA.out.ln
          rw [List.length_append] at hln
          clear h r1 r2
          generalize pns (goneA σ RR) = G1 at R1 A3 HOA hln
          generalize pns (lostL (ackS σ RR now2 0) now2) = G2 at R2 A3 HOA hln
          go_wp2_with (at_builtin; refine wpList_append_sl _ rfl _ _ 37 rfl 28 i1 _ 1 8 und37 hi1 hy0 hy1 hy2 rfl (by omega) (.slice a1 G1.length c1) G1.length (us G1) rfl R1.out (.slice a2 G2.length c2) G2.length (us G2) rfl R2.out.rd (us_one _) (by unfold maxLen; omega) (by omega) fun a3 c3 w4 k1 k2 k3 k4 => ?_)
          have HF : Hid (LL w w4 p (lostS (ackS σ RR now2 0) now2) [tS (.slice a3 (G1 ++ G2).length c3) (G1 ++ G2), tN ki mb nm f]) := Lib.hid (by
            have h5 := A3.out.step (N := tS (.slice a3 (G1 ++ G2).length c3) (G1 ++ G2)) k2 (by show Sl _ _ _ _ (G1 ++ G2).length (us (G1 ++ G2)); rw [List.length_append, us_app]; exact k1) (fun g hg => k3 g (by rw [← List.length_append]; exact hg))
            exact LL.drop (LL.swap (LL.drop (LL.swap (LL.drop (LL.swap h5))))))
          clear k1 k2 k3 k4
          go_meet
          case rel => exact ⟨pn, nm, _, _, G1 ++ G2, a3, c3, rfl, by rw [List.length_append], by omega, by omega, HF, HOA⟩
        · skip
          obtain ⟨i0, hi0, hz0, hz1, hz2⟩ := info_parts info38
          obtain ⟨i1, hi1, hy0, hy1, hy2⟩ := info_parts info28
          have HX1 : Hid (LL w W p σ [tR (.slice none 0 0) ((x.R.take 0).map (rngO pn)), tB ab acl 56, tN ki mb nm f]) := Lib.hid (HX.out.more (Touch.refl _ _) (tR (.slice none 0 0) []) (show Sl W 35 2 (.slice none 0 0) _ (cr []) from Sl.nil W 35 2) (by simp [tR]))
          have HPN : Hid (pn ≤ 100) := Lib.hid (by omega)
          clear e0 e6
          go_upto_block 3 with fail
          clear i6 i7 w6 hr
          go_cut [10, 11, 12] from 69 to 104 (fun s10 s11 s12 wx => ∃ (ra : Option Addr) (rc : Nat) (RR : List Rng), s10 = .slice ra RR.length rc ∧ Hid (RR.length ≤ 6) ∧ Hid (ackBad σ RR = false) ∧ Hid (LL w wx p σ [tR (.slice ra RR.length rc) RR, tB ab acl 56, tN ki mb nm f]))
          case first =>
            by_cases hp0 : ¬ (0 : Int) < (pn : Int)
            · have HG := Lib.hid (HI.out.good HX.out.ok [] (by simp))
              go_wp2_with fail
              go_loopw [10, 11] (fun s10 s11 wx => s10 = .slice none 0 0 ∧ s11 = .int .i64 0 ∧ wx = W) (fun _ _ _ => 0)
              case atStart => exact ⟨rfl, rfl, rfl⟩
              case round =>
                obtain ⟨rfl, rfl, rfl⟩ := hrel
                by_cases hr0 : (0 : Int) < (x.R.length : Int)
                · go_wp2_with fail
                  go_meet
                  case rel => exact ⟨none, 0, [], rfl, Lib.hid (by simp), HG, HX1⟩
                · go_wp2_with fail
                  go_meet
                  case rel => exact ⟨none, 0, [], rfl, Lib.hid (by simp), HG, HX1⟩
            · have hp0' : (0 : Int) < (pn : Int) := by omega
              clear hp0
              have hp1 : ((pn : Int) == 0) = false := beq_eq_false_iff_ne.2 (by omega)
              have HG := fun R' => HI.out.good HX.out.ok (R'.map (rngO pn)) (rngO_ok pn (by omega) R')
              have HGH := Lib.hid HG
              clear HG
              go_wp2_with fail
              go_loopw [10, 11] (fun s10 s11 wx => ∃ (j : Nat) (ra : Option Addr) (rc : Nat), j ≤ x.R.length ∧ s10 = .slice ra j rc ∧ s11 = .int .i64 (j : Int) ∧ Hid (LL w wx p σ [tR (.slice ra j rc) ((x.R.take j).map (rngO pn)), tB ab acl 56, tN ki mb nm f])) (fun _ s11 _ => x.R.length - (intOf s11).toNat)
              case atStart => exact ⟨0, none, 0, by omega, rfl, rfl, HX1⟩
              case round =>
                obtain ⟨j, ra, rc, hj, rfl, rfl, HA⟩ := hrel
                have eb := HA.out.blk (b := ab) (vs := acl) (t := 56) (by simp)
                have e4 := eb.cell 4
                have el := eb.lt
                rw [HAC.out] at e4
                simp only [List.getElem?_cons_zero, List.getElem?_cons_succ] at e4
                clear eb
                have HRL : Hid (((x.R.take j).map (rngO pn)).length = j) := Lib.hid (by rw [List.length_map, List.length_take]; omega)
                by_cases hlj : j < x.R.length
                · have hlj' : (j : Int) < (x.R.length : Int) := by omega
                  have hS := HA.out.get (List.mem_cons_self ..)
                  have hS : Sl wr 35 2 (.slice ra j rc) j (cr ((x.R.take j).map (rngO pn))) := by have h1 : Sl wr 35 2 (.slice ra j rc) _ (cr _) := hS; rw [HRL.out] at h1; exact h1
                  have HS := Lib.hid hS
                  obtain ⟨z, hz⟩ : ∃ z, x.R[j]? = some z := ⟨_, List.getElem?_eq_getElem hlj⟩
                  obtain ⟨g, o, rfl⟩ := XR.out.some (by omega)
                  obtain ⟨c1, c2, hg⟩ := (XR.out.touch HA.out.touch (by simp)).two rfl j z hz
                  have hz12 := y5 z (List.mem_of_getElem? hz)
                  obtain ⟨z1, z2⟩ := z
                  simp only at c1 c2 hz12
                  obtain ⟨m1, hm1⟩ : ∃ m1, m1 = z1 % pn := ⟨_, rfl⟩
                  obtain ⟨m2, hm2⟩ : ∃ m2, m2 = z2 % 3 := ⟨_, rfl⟩
                  have hm1p : m1 < pn := by rw [hm1]; exact Nat.mod_lt _ (by omega)
                  have hm2p : m2 < 3 := by omega
                  have k1 : (z1 : Int) % (pn : Int) = (m1 : Int) := by rw [hm1, Int.natCast_emod]
                  have k2 : (z2 : Int) % 3 = (m2 : Int) := by omega
                  have HXS : Hid ((x.R.take (j + 1)).map (rngO pn) = (x.R.take j).map (rngO pn) ++ [(m1, min (m1 + m2) (pn - 1))]) := Lib.hid (by rw [List.take_add_one, hz, List.map_append]; simp [rngO, hm1, hm2])
                  obtain ⟨m3, hm3⟩ : ∃ m3, m3 = min (m1 + m2) (pn - 1) := ⟨_, rfl⟩
                  rw [← hm3] at HXS
                  have k3 : min ((m1 : Int) + (m2 : Int)) ((pn : Int) - 1) = (m3 : Int) := by omega
                  clear hS hz hz12 hm1 hm2 hm3
                  go_wp2_with (at_builtin; refine wpList_append_sl _ rfl _ _ 36 rfl 35 i0 _ 2 16 under27 hi0 hz0 hz1 hz2 rfl (by omega) (.slice ra j rc) j (cr ((x.R.take j).map (rngO pn))) rfl (HS.out.touch ((Touch.refl [] _).alloc _) (by simp)) _ 1 (cr [(m1, m3)]) rfl (.new _ (m1, m3)) (cr_one _) (by have := HR6.out; unfold maxLen; omega) (by have := HR6.out; omega) fun a3 c3 w3 k1 k2 k3 k4 => ?_)
                  have HN : Hid (LL w w3 p σ [tR (.slice a3 (j + 1) c3) ((x.R.take (j + 1)).map (rngO pn)), tB ab acl 56, tN ki mb nm f]) := Lib.hid ((HA.out.keep ((Touch.refl _ _).alloc _)).step (N := tR (.slice a3 (j + 1) c3) ((x.R.take (j + 1)).map (rngO pn))) k2 (by
                    show Sl _ _ _ _ ((x.R.take (j + 1)).map (rngO pn)).length (cr _)
                    rw [HXS.out, List.length_append, HRL.out, cr_append]
                    exact k1) k3)
                  clear k1 k2 k3 k4
                  go_roundw
                  case rel => exact ⟨j + 1, a3, c3, by omega, rfl, by go_num, HN⟩
                  case measure => simp [intOf]; omega
                · obtain rfl : j = x.R.length := by omega
                  go_wp2_with fail
                  go_meet
                  case rel => exact ⟨ra, rc, (x.R.take x.R.length).map (rngO pn), by rw [HRL.out], Lib.hid (by rw [HRL.out]; exact HR6.out), Lib.hid (HGH.out _), by rw [HRL.out]; exact HA⟩
          case rest =>
          obtain ⟨ra, rc, RR, rfl, HRL, HAB, HA⟩ := hcut
          go_wp2_with fail
          refine (show Calls Try.prog 12 #[.pointer (some ⟨p, 0, none⟩), .slice ra RR.length rc, .int .u64 (now2 : Int), .int .u64 0] wc _ from ll_ackR HA.out now2 0 (by have := HRL.out; omega) HAB.out (by omega) (by decide)).mono ?_
          rintro e w3 ⟨v1, v2, rfl, h⟩
          have r1 : Sl w3 28 1 v1 _ (us (pns (goneA σ RR))) := h.get (List.mem_cons_self ..)
          have r2 : Sl w3 28 1 v2 _ (us (pns (lostL (ackS σ RR now2 0) now2))) := h.get (List.mem_cons_of_mem _ (List.mem_cons_self ..))
          obtain ⟨a1, c1, rfl, _⟩ := r1.form
          obtain ⟨a2, c2, rfl, _⟩ := r2.form
          have R1 := Lib.hid r1
          have R2 := Lib.hid r2
          have A3 := Lib.hid h
          have HOA := Lib.hid (HI.out.ack HX.out.ok RR now2 0)
          have hln := HOA.out.ln
          rw [List.length_append] at hln
          clear h r1 r2
          generalize pns (goneA σ RR) = G1 at R1 A3 HOA hln
          generalize pns (lostL (ackS σ RR now2 0) now2) = G2 at R2 A3 HOA hln
          go_wp2_with (at_builtin; refine wpList_append_sl _ rfl _ _ 37 rfl 28 i1 _ 1 8 und37 hi1 hy0 hy1 hy2 rfl (by omega) (.slice a1 G1.length c1) G1.length (us G1) rfl R1.out (.slice a2 G2.length c2) G2.length (us G2) rfl R2.out.rd (us_one _) (by unfold maxLen; omega) (by omega) fun a3 c3 w4 k1 k2 k3 k4 => ?_)
          have HF : Hid (LL w w4 p (lostS (ackS σ RR now2 0) now2) [tS (.slice a3 (G1 ++ G2).length c3) (G1 ++ G2), tN ki mb nm f]) := Lib.hid (by
            have h5 := A3.out.step (N := tS (.slice a3 (G1 ++ G2).length c3) (G1 ++ G2)) k2 (by show Sl _ _ _ _ (G1 ++ G2).length (us (G1 ++ G2)); rw [List.length_append, us_app]; exact k1) (fun g hg => k3 g (by rw [← List.length_append]; exact hg))
            exact LL.drop (LL.swap (LL.drop (LL.swap (LL.drop (LL.swap h5))))))
          clear k1 k2 k3 k4
          go_meet
          case rel => exact ⟨pn, nm, _, _, G1 ++ G2, a3, c3, rfl, by rw [List.length_append], by omega, by omega, HF, HOA⟩
        · skip
          go_wp2_with fail
          refine (ll_tick HX.out now2 (by omega)).mono ?_
          rintro e w3 ⟨v, rfl, h⟩
          have r1 : Sl w3 28 1 v (pns (lostL σ now2)).length (us (pns (lostL σ now2))) := h.get (List.mem_cons_self ..)
          obtain ⟨va, vc, rfl, _⟩ := r1.form
          have A3 := Lib.hid (LL.drop h.swap)
          clear h r1 e0 e4 e6 el
          go_wp2_with fail
          go_meet
          case rel => exact ⟨pn, nm, _, _, _, va, vc, rfl, rfl, by omega, by omega, A3, Lib.hid (HI.out.tick HX.out.ok now2)⟩
      case rest =>
      obtain ⟨pn', nm', σ', f', ov, va, vc, rfl, rfl, hpn', hnm', HA, HO⟩ := hcut
      have hov := HO.out.ln
      go_wp2_with fail
      go_loopw [16] (fun i wx => ∃ j : Nat, j ≤ ov.length ∧ i = .int .i64 (j : Int) ∧ Hid (LL w wx p σ' [tS (.slice va ov.length vc) ov, tN ki mb (nm' + j) (fmark f' (ov.take j))])) (fun i _ => ov.length - (intOf i).toNat)
      case atStart => exact ⟨0, by omega, rfl, by rw [List.take_zero, fmark_nil]; exact HA⟩
      case round =>
        obtain ⟨j, hj, rfl, HA⟩ := hrel
        by_cases hlj : j < ov.length
        · have hlj' : (j : Int) < (ov.length : Int) := by omega
          obtain ⟨y, hy⟩ : ∃ y, ov[j]? = some y := ⟨_, List.getElem?_eq_getElem hlj⟩
          obtain ⟨g, o, rfl, e1, hg, _⟩ := Sl.word (show Sl _ _ _ _ _ _ from HA.out.get (List.mem_cons_self ..)) hy
          have hyp := HO.out.sm y (List.mem_of_getElem? hy)
          have hlk := ll_look HA.out.swap y (by omega)
          rw [HO.out.told j y hy] at hlk
          obtain ⟨w4, hst, hB⟩ := ll_put HA.out.swap y (by omega) 2 (by unfold maxLen; omega)
          rw [fmark_put f' ov j y hy] at hB
          have hlk' : (Instr.lookup 53 (.map (some mb)) (.int .u64 (y : Int)) false).run Try.prog wr = .ok (.int .i64 1) wr := hlk
          have hst' : (Instr.mapUpdate 53 (.map (some mb)) (.int .u64 (y : Int)) (.int .i64 2)).run Try.prog wr = .ok () w4 := hst
          have HB := Lib.hid hB.swap
          clear hst hlk hB hy
          go_wp2_with fail
          go_roundw
          case rel => exact ⟨j + 1, by omega, by go_num, HB⟩
          case measure => simp [intOf]; omega
        · obtain rfl : j = ov.length := by omega
          rw [List.take_length] at HA
          have HD := Lib.hid HO.out.done
          go_wp2_with fail
          refine (ll_open HA.out).mono ?_
          rintro e w5 ⟨v5, rfl, h⟩
          have r5 : Rd w5 1 v5 (pns σ'.opens).length (us (pns σ'.opens)) := h.get (List.mem_cons_self ..)
          rw [pns_len] at r5
          obtain ⟨a5, c5, rfl⟩ := r5.form
          have A5 := Lib.hid h
          have R5 := Lib.hid r5
          clear h r5
          have hol : σ'.opens.length ≤ pn' := by omega
          go_wp2_with fail
          go_loopw [18, 19] (fun nn pp wx => ∃ q : Nat, q ≤ pn' ∧ nn = .int .i64 (under (pns σ'.opens) q : Int) ∧ pp = .int .u64 (q : Int) ∧ Hid (Touch [] w5 wx)) (fun _ pp _ => pn' - (intOf pp).toNat)
          case atStart => exact ⟨0, by omega, by rw [under_none (fun _ _ => Nat.zero_le _)]; rfl, rfl, Lib.hid (Touch.refl _ _)⟩
          case round =>
            obtain ⟨q, hq, rfl, rfl, HT⟩ := hrel
            have A6 := Lib.hid (A5.out.keep HT.out)
            have hul := under_le (pns σ'.opens) q
            rw [pns_len] at hul
            by_cases hlq : q < pn'
            · have hlq' : (q : Int) < (pn' : Int) := by omega
              have hlk := ll_look (show LL w _ p σ' [tN ki mb (nm' + ov.length) (fmark f' ov)] from A6.out.drop.drop) q (by omega)
              by_cases hin : q ∈ pns σ'.opens
              · rw [(HD.out.one q).2 (.inl hin)] at hlk
                have hlk' : (Instr.lookup 53 (.map (some mb)) (.int .u64 (q : Int)) false).run Try.prog wr = .ok (.int .i64 1) wr := hlk
                obtain ⟨u1, u2⟩ := under_in (pns_pair HA.out.ok.rise) hin
                obtain ⟨g, o, rfl, e1, hg⟩ := rd_oneAt (R5.out.touch HT.out (by simp)) (pns_len _) _ _ u1
                have hun : under (pns σ'.opens) q < σ'.opens.length := by have := (List.getElem?_eq_some_iff.1 u1).1; rw [pns_len] at this; exact this
                have HU2 := Lib.hid u2
                generalize under (pns σ'.opens) q = un at e1 hun hul HU2 ⊢
                have hge : ¬ (σ'.opens.length : Int) ≤ (un : Int) := by omega
                clear hlk u1 u2
                go_wp2_with fail
                go_roundw
                case rel => exact ⟨q + 1, by omega, by rw [HU2.out]; go_num, by go_num, HT⟩
                case measure => simp [intOf]; omega
              · generalize hz : (fmark f' ov q).getD ki.z = z at hlk
                have hz1 : (z == 1) = false := beq_eq_false_iff_ne.2 (fun e => by rw [e] at hz; rcases (HD.out.one q).1 hz with h | h; exact hin h; cases h)
                have hlk' : (Instr.lookup 53 (.map (some mb)) (.int .u64 (q : Int)) false).run Try.prog wr = .ok (.int .i64 z) wr := hlk
                have HU2 := Lib.hid (under_out hin)
                clear hlk hz
                go_wp2_with fail
                go_roundw
                case rel => exact ⟨q + 1, by omega, by rw [HU2.out], by go_num, HT⟩
                case measure => simp [intOf]; omega
            · obtain rfl : q = pn' := by omega
              rw [under_all (fun x hx => HD.out.small HA.out.ok hx), pns_len]
              go_wp2_with fail
              refine (ll_flight A6.out).mono ?_
              rw [HO.out.flies]
              rintro e w8 ⟨rfl, h⟩
              have A8 : Hid (LL w w8 p σ' [tN ki mb (nm' + ov.length) (fmark f' ov)]) := Lib.hid (LL.drop (LL.drop h))
              clear h
              go_wp2_with fail
              go_roundw
              case rel => exact ⟨k + 1, q, now2, nm' + ov.length, σ', fmark f' ov, by omega, rfl, rfl, by go_num, hpn', hnw2, by omega, A8, HD⟩
              case measure => simp [intOf]; omega
    · have HT := Lib.hid HJ.out.touch
      go_wp2_with fail
      go_ret
      exact ⟨rfl, HT.out⟩
end Go.Proofs.Ythnokfchebmjiaa
