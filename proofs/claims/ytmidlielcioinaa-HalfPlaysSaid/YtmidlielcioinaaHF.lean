/- The walk of the document's Next. Conditions: the half is in order. -/
import Derived.Test.YtmidlielcioinaaHE
import Derived.Test.YtmidlielcioinaaHG
import Derived.Test.YtmidlielcioinaaHC
namespace Go.Proofs.Ytmidlielcioinaa
open Go.RowKit

def StepHV (w : World) (p : Nat) (F : List Nat) (η : Hlf) (w' : World) (v : Value) : Prop := ∃ F', IsHlf w' p F' η ∧ Touch F w w' ∧ (∀ g ∈ F', g ∈ F ∨ w.heap.size ≤ g) ∧ ∀ g ∈ own v, g ∉ F'
theorem part_rd {w : World} {g o n c : Nat} {b : List Nat} (h : Rd w 1 (.slice (some ⟨g, o, none⟩) n c) n (bs b)) (hb : b.length = n) (A E : Nat) (h1 : A ≤ E) (h2 : E ≤ n) (hnc : n ≤ c) :
    (c = A → Rd w 1 (.slice (some ⟨g, o, none⟩) (E - A) 0) (E - A) (bs ((b.drop A).take (E - A)))) ∧
    (c ≠ A → Rd w 1 (.slice (some ⟨g, o + A, none⟩) (E - A) (c - A)) (E - A) (bs ((b.drop A).take (E - A)))) := by
  have hlen : (bs ((b.drop A).take (E - A))).length = (E - A) * 1 := by rw [bs_len]; simp; omega
  refine ⟨fun e => ⟨hlen, .inl ⟨_, _, rfl, by omega⟩⟩, fun e => ⟨hlen, ?_⟩⟩
  by_cases h0 : E - A = 0
  · exact .inl ⟨_, _, rfl, h0⟩
  · rcases h.2 with ⟨a, k, e1, e2⟩ | ⟨b', o2, cap, e1, e2, e3, e4⟩
    · omega
    · simp at e1
      obtain ⟨⟨rfl, rfl⟩, rfl⟩ := e1
      refine .inr ⟨g, o + A, c - A, rfl, by omega, fun _ => e3 (by omega), fun j hj => ?_⟩
      have := e4 (A + j) (by omega)
      rw [Nat.add_assoc, this]
      unfold bs
      rw [List.map_take, List.map_drop, List.getElem?_take, if_pos (by omega), List.getElem?_drop]

set_option maxHeartbeats 8000000 in
set_option maxRecDepth 100000 in
theorem hnext_walk (w : World) (p : Nat) (F : List Nat) (η : Hlf) (n : Int) (A2 A0 A K E : Nat) (φ : Bool) (h : IsHlf w p F η) (hn : n ≤ 9223372036854775807) (hgo : η.gone = false) (P : Plan η n A2 A0 A K E φ) :
    Calls Try.prog 22 #[.pointer (some ⟨p, 0, none⟩), .int .i64 n] w fun e w' =>
      (E = A ∧ φ = false → e = .returned (.tuple #[.int .u64 0, .slice none 0 0, .bool false, .bool false]) ∧ Touch [] w w') ∧
      (¬ (E = A ∧ φ = false) → ∃ v, e = .returned (.tuple #[.int .u64 (A : Int), v, .bool φ, .bool true]) ∧ Rd w' 1 v (E - A) (bs ((η.b.drop A).take (E - A))) ∧ StepHV w p F (sentH η A E φ) w' v ∧ ∀ g ∈ own v, w.heap.size ≤ g) := by
  have HP := Lib.hid P
  have HH := Lib.hid h
  obtain ⟨ab, az, cb, cz, h1, h2, h3, hF, d1, d2, d3, hok⟩ := h
  have HF := Lib.hid hF
  have H1 := Lib.hid h1
  have HQ := Lib.hid (And.intro h2 (And.intro h3 (And.intro d1 (And.intro d2 d3))))
  have HOK := Lib.hid hok
  obtain ⟨L, hL⟩ : ∃ L, L = η.b.length := ⟨_, rfl⟩
  have HLB := Lib.hid hL
  have HLS : Hid (η.s.length = L) := Lib.hid (by rw [hL]; exact hok.s)
  have hl5 : L ≤ 50000 := by rw [hL]; exact hok.len
  have c1 := h1.cell 1
  have c5 := h1.cell 5
  have hl := h1.lt
  simp only [hcells, List.getElem?_cons_zero, List.getElem?_cons_succ] at c1 c5
  rw [hgo] at c5
  rw [← hL] at c1
  clear P h1 h2 h3 hF d1 d2 d3 hok hL hgo
  go_enter Try.func22, Try.ntmps22
  go_upto_block 0 with (fail)
  obtain ⟨W4, hW4⟩ : ∃ W4, W4 = w.alloc (.cells #[.int .u8 2, .int .u8 0] 5) := ⟨_, rfl⟩
  rw [← hW4]
  have HT4 : Hid (Touch [] w W4) := Lib.hid (by rw [hW4]; exact (Touch.refl _ _).alloc _)
  have HB4 := Lib.hid (H1.out.touch HT4.out (by simp))
  have HS4 := Lib.hid (HQ.out.2.1.touch HT4.out (by simp))
  have hq0 : W4.cell? ⟨w.heap.size, 0, none⟩ = some (.int .u8 2) := by
    have := (IsBlk.new w [.int .u8 2, .int .u8 0] 5).cell 0
    rw [hW4]
    exact this
  have hq1 : W4.cell? ⟨w.heap.size, 1, none⟩ = some (.int .u8 0) := by
    have := (IsBlk.new w [.int .u8 2, .int .u8 0] 5).cell 1
    rw [hW4]
    exact this
  have hql : w.heap.size < W4.heap.size := by rw [hW4]; simp
  have HLEA2 : Hid (A2 ≤ L) := Lib.hid (by rw [HLB.out]; exact HP.out.le2)
  have HLEA0 : Hid (A0 ≤ L) := Lib.hid (by rw [HLB.out]; exact HP.out.le0)
  clear hW4 c5
  go_cut [8, 9] (fun s8 s9 wx => s8 = .int .i64 (A : Int) ∧ s9 = .int .u8 (K : Int) ∧ Hid (Touch [] w wx))
  case first =>
    have b0 := HB4.out.cell 0
    have b1 := HB4.out.cell 1
    have b2 := HB4.out.cell 2
    have bl := HB4.out.lt
    simp only [hcells, List.getElem?_cons_zero, List.getElem?_cons_succ] at b0 b1 b2
    rw [← HLB.out] at b1
    clear c1 hl
    go_wp2_with fail
    go_loopw [28, 8, 9] (fun i s8 s9 wr => wr = W4 ∧ s8 = .int .i64 (L : Int) ∧ s9 = .int .u8 0 ∧ (i = .int .i64 0 ∨ (i = .int .i64 1 ∧ Hid (A2 = L)) ∨ (i = .int .i64 2 ∧ Hid (A2 = L) ∧ Hid (A0 = L)))) (fun i _ _ _ => 2 - (intOf i).toNat)
    case atStart => exact ⟨rfl, rfl, rfl, .inl rfl⟩
    case round =>
      obtain ⟨rfl, rfl, rfl, rfl | ⟨rfl, G1⟩ | ⟨rfl, G1, G2⟩⟩ := hrel
      · go_wp2_with fail
        go_loopw [12, 8, 9] (fun i s8 s9 wx => wx = wr ∧ ∃ k : Nat, i = .int .i64 (k : Int) ∧ ((k ≤ A2 ∧ s8 = .int .i64 (L : Int) ∧ s9 = .int .u8 0) ∨ (k = A2 + 1 ∧ A2 < L ∧ s8 = .int .i64 (A2 : Int) ∧ s9 = .int .u8 2))) (fun i _ _ _ => L + 1 - (intOf i).toNat)
        case atStart => exact ⟨rfl, 0, by simp, .inl ⟨by omega, rfl, rfl⟩⟩
        case round =>
          obtain ⟨rfl, k, rfl, ⟨hk, rfl, rfl⟩ | ⟨rfl, hk, rfl, rfl⟩⟩ := hrel
          · by_cases hlt : k < L
            · have hlt' : (k : Int) < (L : Int) := by omega
              have hls' : (k : Int) < (η.s.length : Int) := by rw [HLS.out]; omega
              obtain ⟨x, hx⟩ : ∃ x, η.s[k]? = some x := ⟨_, List.getElem?_eq_getElem (by rw [HLS.out]; exact hlt)⟩
              obtain ⟨g, o, rfl, hc, hg, _, hnc, _⟩ := HS4.out.byte hx
              have HX := Lib.hid hx
              clear hx
              have hwk : IntKind.u64.wrap (k : Int) = (k : Int) := IntWalk.u64_in _ (by omega)
              by_cases hxe : x = 2
              · subst hxe
                by_cases hm : (k : Int) < (η.max : Int)
                · obtain rfl : k = A2 := by
                    apply Classical.byContradiction
                    intro h0
                    exact HP.out.no2 k (by omega) ⟨HX.out, by omega⟩
                  go_wp2_with fail
                  go_roundw
                  case rel => exact ⟨trivial, k + 1, by go_num, .inr ⟨rfl, hlt, rfl, rfl⟩⟩
                  case measure => simp [intOf]; omega
                · have hne : k ≠ A2 := fun e => by
                    have := HP.out.yes2 (by rw [← HLB.out, ← e]; exact hlt)
                    have := this.2
                    omega
                  go_wp2_with fail
                  go_roundw
                  case rel => exact ⟨trivial, k + 1, by go_num, .inl ⟨by omega, rfl, rfl⟩⟩
                  case measure => simp [intOf]; omega
              · have hxq : ((x : Int) == 2) = false := by simp; omega
                have hne : k ≠ A2 := fun e => by
                  have := (HP.out.yes2 (by rw [← HLB.out, ← e]; exact hlt)).1
                  rw [← e, HX.out] at this
                  exact hxe (Option.some.inj this)
                go_wp2_with fail
                go_roundw
                case rel => exact ⟨trivial, k + 1, by go_num, .inl ⟨by omega, rfl, rfl⟩⟩
                case measure => simp [intOf]; omega
            · obtain rfl : k = L := by have := HLEA2.out; omega
              have hAK : A2 = k := by have := HLEA2.out; omega
              go_wp2_with fail
              go_roundw
              case rel => exact ⟨trivial, rfl, rfl, .inr (.inl ⟨by go_num, Lib.hid hAK⟩)⟩
              case measure => simp [intOf]
          · have hAL : (A2 : Int) < (L : Int) := by omega
            have hne : ((A2 : Int) == (L : Int)) = false := by simp; omega
            by_cases hlt : (A2 : Int) + 1 < (L : Int)
            · go_wp2_with fail
              go_meet
              case rel =>
                have hpk : A = A2 ∧ K = 2 := by
                  rcases HP.out.pick with ⟨_, e1, e2⟩ | ⟨e0, _⟩
                  · exact ⟨e1, e2⟩
                  · have := HLB.out; omega
                exact ⟨by rw [hpk.1], by rw [hpk.2]; rfl, HT4⟩
            · go_wp2_with fail
              go_meet
              case rel =>
                have hpk : A = A2 ∧ K = 2 := by
                  rcases HP.out.pick with ⟨_, e1, e2⟩ | ⟨e0, _⟩
                  · exact ⟨e1, e2⟩
                  · have := HLB.out; omega
                exact ⟨by rw [hpk.1], by rw [hpk.2]; rfl, HT4⟩
      · go_wp2_with fail
        go_loopw [12, 8, 9] (fun i s8 s9 wx => wx = wr ∧ ∃ k : Nat, i = .int .i64 (k : Int) ∧ ((k ≤ A0 ∧ s8 = .int .i64 (L : Int) ∧ s9 = .int .u8 0) ∨ (k = A0 + 1 ∧ A0 < L ∧ s8 = .int .i64 (A0 : Int) ∧ s9 = .int .u8 0))) (fun i _ _ _ => L + 1 - (intOf i).toNat)
        case atStart => exact ⟨rfl, 0, by simp, .inl ⟨by omega, rfl, rfl⟩⟩
        case round =>
          obtain ⟨rfl, k, rfl, ⟨hk, rfl, rfl⟩ | ⟨rfl, hk, rfl, rfl⟩⟩ := hrel
          · by_cases hlt : k < L
            · have hlt' : (k : Int) < (L : Int) := by omega
              have hls' : (k : Int) < (η.s.length : Int) := by rw [HLS.out]; omega
              obtain ⟨x, hx⟩ : ∃ x, η.s[k]? = some x := ⟨_, List.getElem?_eq_getElem (by rw [HLS.out]; exact hlt)⟩
              obtain ⟨g, o, rfl, hc, hg, _, hnc, _⟩ := HS4.out.byte hx
              have HX := Lib.hid hx
              clear hx
              have hwk : IntKind.u64.wrap (k : Int) = (k : Int) := IntWalk.u64_in _ (by omega)
              by_cases hxe : x = 0
              · subst hxe
                by_cases hm : (k : Int) < (η.max : Int)
                · obtain rfl : k = A0 := by
                    apply Classical.byContradiction
                    intro h0
                    exact HP.out.no0 k (by omega) ⟨HX.out, by omega⟩
                  go_wp2_with fail
                  go_roundw
                  case rel => exact ⟨trivial, k + 1, by go_num, .inr ⟨rfl, hlt, rfl, rfl⟩⟩
                  case measure => simp [intOf]; omega
                · have hne : k ≠ A0 := fun e => by
                    have := HP.out.yes0 (by rw [← HLB.out, ← e]; exact hlt)
                    have := this.2
                    omega
                  go_wp2_with fail
                  go_roundw
                  case rel => exact ⟨trivial, k + 1, by go_num, .inl ⟨by omega, rfl, rfl⟩⟩
                  case measure => simp [intOf]; omega
              · have hxq : ((x : Int) == 0) = false := by simp; omega
                have hne : k ≠ A0 := fun e => by
                  have := (HP.out.yes0 (by rw [← HLB.out, ← e]; exact hlt)).1
                  rw [← e, HX.out] at this
                  exact hxe (Option.some.inj this)
                go_wp2_with fail
                go_roundw
                case rel => exact ⟨trivial, k + 1, by go_num, .inl ⟨by omega, rfl, rfl⟩⟩
                case measure => simp [intOf]; omega
            · obtain rfl : k = L := by have := HLEA0.out; omega
              have hAK : A0 = k := by have := HLEA0.out; omega
              go_wp2_with fail
              go_roundw
              case rel => exact ⟨trivial, rfl, rfl, .inr (.inr ⟨by go_num, G1, Lib.hid hAK⟩)⟩
              case measure => simp [intOf]
          · have hAL : (A0 : Int) < (L : Int) := by omega
            have hne : ((A0 : Int) == (L : Int)) = false := by simp; omega
            by_cases hlt : (A0 : Int) + 1 < (L : Int)
            · go_wp2_with fail
              go_meet
              case rel =>
                have hpk : A = A0 ∧ K = 0 := by
                  rcases HP.out.pick with ⟨e0, _⟩ | ⟨_, e1, e2⟩
                  · have := HLB.out; have := G1.out; omega
                  · exact ⟨e1, e2⟩
                exact ⟨by rw [hpk.1], by rw [hpk.2]; rfl, HT4⟩
            · go_wp2_with fail
              go_meet
              case rel =>
                have hpk : A = A0 ∧ K = 0 := by
                  rcases HP.out.pick with ⟨e0, _⟩ | ⟨_, e1, e2⟩
                  · have := HLB.out; have := G1.out; omega
                  · exact ⟨e1, e2⟩
                exact ⟨by rw [hpk.1], by rw [hpk.2]; rfl, HT4⟩
      · go_wp2_with fail
        go_meet
        case rel =>
          have hpk : A = L ∧ K = 0 := by
            rcases HP.out.pick with ⟨e0, _⟩ | ⟨_, e1, e2⟩
            · have := HLB.out; have := G1.out; omega
            · have := G2.out; exact ⟨by omega, e2⟩
          exact ⟨by rw [hpk.1], by rw [hpk.2]; rfl, HT4⟩
  case rest =>
  obtain ⟨rfl, rfl, HTC⟩ := hcut
  have HBC := Lib.hid (H1.out.touch HTC.out (by simp))
  have HSC := Lib.hid (HQ.out.2.1.touch HTC.out (by simp))
  have b0 := HBC.out.cell 0
  have b1 := HBC.out.cell 1
  have b2 := HBC.out.cell 2
  have b3 := HBC.out.cell 3
  have b4 := HBC.out.cell 4
  have bl := HBC.out.lt
  simp only [hcells, List.getElem?_cons_zero, List.getElem?_cons_succ] at b0 b1 b2 b3 b4
  rw [← HLB.out] at b1
  clear c1 hl HS4 HB4 hq0 hq1 hql HT4 HLEA2 HLEA0
  have hAE : A ≤ E := HP.out.lo
  have hEL : E ≤ L := by rw [HLB.out]; exact HP.out.hi
  go_upto_block 4 with (fail)
  go_cut [13] (fun s13 wx => s13 = .int .i64 (E : Int) ∧ wx = wc)
  case first =>
    go_wp2_with fail
    go_loopw [13] (fun i wx => wx = wc ∧ ∃ k : Nat, A ≤ k ∧ k ≤ E ∧ i = .int .i64 (k : Int)) (fun i _ => E - (intOf i).toNat)
    case atStart => exact ⟨rfl, A, by omega, by omega, rfl⟩
    case round =>
      obtain ⟨rfl, k, hk1, hk2, rfl⟩ := hrel
      have hwk : IntKind.u64.wrap (k : Int) = (k : Int) := IntWalk.u64_in _ (by omega)
      by_cases hlt : k < E
      · obtain ⟨⟨hx, hm⟩, hd⟩ := HP.out.yesE k hk1 hlt
        have hlt' : (k : Int) < (L : Int) := by omega
        have hls' : (k : Int) < (η.s.length : Int) := by rw [HLS.out]; omega
        obtain ⟨g, o, rfl, hc, hg, _, hnc, _⟩ := HSC.out.byte hx
        have hm' : (k : Int) < (η.max : Int) := by omega
        clear hx hm
        go_wp2_with fail
        go_roundw
        case rel => exact ⟨trivial, k + 1, by omega, by omega, by go_num⟩
        case measure => simp [intOf]; omega
      · obtain rfl : k = E := by omega
        by_cases hEL2 : k = L
        · have hnl : ¬ (k : Int) < (L : Int) := by omega
          have HE := Lib.hid hEL2
          clear hEL2
          go_wp2_with fail
          go_meet
          case rel => exact ⟨rfl, rfl⟩
        · have hlt' : (k : Int) < (L : Int) := by omega
          have hls' : (k : Int) < (η.s.length : Int) := by rw [HLS.out]; omega
          by_cases hd : (k : Int) - (A : Int) < n
          · obtain ⟨x, hx⟩ : ∃ x, η.s[k]? = some x := ⟨_, List.getElem?_eq_getElem (by rw [HLS.out]; omega)⟩
            obtain ⟨g, o, rfl, hc, hg, _, hnc, _⟩ := HSC.out.byte hx
            have HX := Lib.hid hx
            have HNO : Hid (¬ Mt η K k) := Lib.hid (HP.out.noE.resolve_left (by rw [← HLB.out]; exact hEL2) |>.resolve_left (fun h => h hd))
            clear hx
            by_cases hxe : x = K
            · subst hxe
              have hm' : ¬ (k : Int) < (η.max : Int) := fun h => HNO.out ⟨HX.out, by omega⟩
              go_wp2_with fail
              go_meet
              case rel => exact ⟨rfl, rfl⟩
            · have hxq : ((x : Int) == (K : Int)) = false := by simp; omega
              go_wp2_with fail
              go_meet
              case rel => exact ⟨rfl, rfl⟩
          · go_wp2_with fail
            go_meet
            case rel => exact ⟨rfl, rfl⟩
  case rest =>
  obtain ⟨rfl, rfl⟩ := hcut
  obtain ⟨φ0, hφ0⟩ : ∃ φ0, φ0 = (η.fin && (((E : Int) == (L : Int)) && (((η.finS : Int) == 0) || ((η.finS : Int) == 2)))) := ⟨_, rfl⟩
  have HF0 := Lib.hid hφ0
  have HFI : Hid (φ = (φ0 && (if E = A then η.s.all (fun x => ((x : Int) != 0)) else true))) := Lib.hid (by rw [HP.out.fin, hφ0, HLB.out])
  clear hφ0
  go_upto_region 17 with fail
  go_cut [14] (fun s14 wx => s14 = .bool φ0 ∧ wx = wc)
  case first =>
    cases hf : η.fin with
    | false =>
      rw [hf] at b3
      have HC : Hid (φ0 = false) := Lib.hid (by rw [HF0.out, hf]; rfl)
      clear hf
      go_wp2_with fail
      go_meet
      case rel => exact ⟨by rw [HC.out], rfl⟩
    | true =>
      rw [hf] at b3
      cases he : ((E : Int) == (L : Int)) with
      | false =>
        have HC : Hid (φ0 = false) := Lib.hid (by rw [HF0.out, hf, he]; rfl)
        clear hf
        go_wp2_with fail
        go_meet
        case rel => exact ⟨by rw [HC.out], rfl⟩
      | true =>
        cases h0 : ((η.finS : Int) == 0) with
        | true =>
          have HC : Hid (φ0 = true) := Lib.hid (by rw [HF0.out, hf, he, h0]; rfl)
          clear hf
          go_wp2_with fail
          go_meet
          case rel => exact ⟨by rw [HC.out], rfl⟩
        | false =>
          have HC : Hid (φ0 = ((η.finS : Int) == 2)) := Lib.hid (by rw [HF0.out, hf, he, h0]; simp)
          clear hf
          go_wp2_with fail
          go_meet
          case rel => exact ⟨by rw [HC.out], rfl⟩
  case rest =>
  obtain ⟨rfl, rfl⟩ := hcut
  go_upto_block 6 with (fail)
  go_cut [14] (fun s14 wx => s14 = .bool φ ∧ wx = wc)
  case first =>
    by_cases hEA : E = A
    · have HA0 : Hid (∀ k x : Nat, η.s[k]? = some x → (φ0 && (η.s.take (k + 1)).all (fun x => ((x : Int) != 0))) = ((φ0 && (η.s.take k).all (fun x => ((x : Int) != 0))) && ((x : Int) != 0))) := Lib.hid (fun k x hx => by
        rw [List.take_add_one, hx, List.all_append, Bool.and_assoc]
        simp)
      have HFL : Hid (φ = (φ0 && (η.s.take L).all (fun x => ((x : Int) != 0)))) := Lib.hid (by
        rw [HFI.out, if_pos hEA, ← HLS.out, List.take_length])
      have hEq : ((E : Int) == (A : Int)) = true := by rw [hEA]; simp
      have HEA := Lib.hid hEA
      clear hEA
      go_wp2_with fail
      go_loopw [15, 14] (fun i s14 wx => wx = wc ∧ ∃ (k : Nat) (f : Bool), k ≤ L ∧ i = .int .i64 (k : Int) ∧ s14 = .bool f ∧ Hid (f = (φ0 && (η.s.take k).all (fun x => ((x : Int) != 0))))) (fun i _ _ => L - (intOf i).toNat)
      case atStart => exact ⟨rfl, 0, φ0, by omega, by simp, rfl, Lib.hid (by simp)⟩
      case round =>
        obtain ⟨rfl, k, f, hk, rfl, rfl, HFK⟩ := hrel
        by_cases hlt : k < L
        · have hlt' : (k : Int) < (L : Int) := by omega
          have hls' : (k : Int) < (η.s.length : Int) := by rw [HLS.out]; omega
          obtain ⟨x, hx⟩ : ∃ x, η.s[k]? = some x := ⟨_, List.getElem?_eq_getElem (by rw [HLS.out]; exact hlt)⟩
          obtain ⟨g, o, rfl, hc, hg, _, hnc, _⟩ := HSC.out.byte hx
          have HX := Lib.hid (HA0.out k x hx)
          clear hx
          cases f with
          | true =>
            go_wp2_with fail
            go_roundw
            case rel => exact ⟨trivial, k + 1, _, by omega, by go_num, rfl, Lib.hid (by rw [HX.out, ← HFK.out]; rfl)⟩
            case measure => simp [intOf]; omega
          | false =>
            go_wp2_with fail
            go_roundw
            case rel => exact ⟨trivial, k + 1, _, by omega, by go_num, rfl, Lib.hid (by rw [HX.out, ← HFK.out]; rfl)⟩
            case measure => simp [intOf]; omega
        · obtain rfl : k = L := by omega
          have HFF : Hid (f = φ) := Lib.hid (by rw [HFL.out, HFK.out])
          go_wp2_with fail
          go_meet
          case rel => exact ⟨by rw [HFF.out], rfl⟩
    · have hEq : ((E : Int) == (A : Int)) = false := by simp; omega
      have HFF : Hid (φ0 = φ) := Lib.hid (by rw [HFI.out, if_neg hEA]; simp)
      clear hEA
      go_wp2_with fail
      go_loopw [15, 14] (fun i s14 wx => wx = wc ∧ i = .int .i64 0 ∧ s14 = .bool φ0) (fun i _ _ => 0)
      case atStart => exact ⟨rfl, rfl, rfl⟩
      case round =>
        obtain ⟨rfl, rfl, rfl⟩ := hrel
        by_cases h0 : (0 : Int) < (L : Int)
        · go_wp2_with fail
          go_meet
          case rel => exact ⟨by rw [HFF.out], rfl⟩
        · go_wp2_with fail
          go_meet
          case rel => exact ⟨by rw [HFF.out], rfl⟩
  case rest =>
  obtain ⟨rfl, rfl⟩ := hcut
  obtain ⟨β, hβ⟩ : ∃ β, β = (((E : Int) == (A : Int)) && !φ) := ⟨_, rfl⟩
  have HB := Lib.hid hβ
  clear hβ
  go_upto_region 22 with fail
  go_cut [173] (fun s wx => s = .bool β ∧ wx = wc)
  case first =>
    cases hEq : ((E : Int) == (A : Int)) with
    | true =>
      have HC : Hid (β = !φ) := Lib.hid (by rw [HB.out, hEq]; rfl)
      go_wp2_with fail
      go_meet
      case rel => exact ⟨by rw [HC.out], rfl⟩
    | false =>
      have HC : Hid (β = false) := Lib.hid (by rw [HB.out, hEq]; rfl)
      go_wp2_with fail
      go_meet
      case rel => exact ⟨by rw [HC.out], rfl⟩
  case rest =>
  obtain ⟨rfl, rfl⟩ := hcut
  cases hb : β with
  | true =>
    have HN : Hid (E = A ∧ φ = false) := Lib.hid (by
      have := HB.out
      rw [hb] at this
      cases φ
      · simp at this; exact ⟨by omega, rfl⟩
      · simp at this)
    subst hb
    go_wp2_with fail
    refine bodyPost_ret (v := .tuple #[.int .u64 0, .slice none 0 0, .bool false, .bool false]) (by simp [results, Try.results22, go_sem]) rfl ?_
    exact ⟨fun _ => ⟨rfl, HTC.out⟩, fun h => absurd HN.out h⟩
  | false =>
  have HN : Hid (¬ (E = A ∧ φ = false)) := Lib.hid (fun h => by
    have := HB.out
    rw [hb, h.1, h.2] at this
    simp at this)
  subst hb
  go_wp2_with fail
  go_loopw [16] (fun i wr => ∃ k : Nat, A ≤ k ∧ k ≤ E ∧ i = .int .i64 (k : Int) ∧ Hid (Touch (own (.slice az η.s.length cz)) wc wr) ∧ Hid (Sl wr 5 1 (.slice az η.s.length cz) η.s.length (bs (setR η.s A k)))) (fun i _ => E - (intOf i).toNat)
  case atStart => exact ⟨A, by omega, by omega, rfl, Lib.hid (Touch.refl _ _), Lib.hid (by rw [setR_zero]; exact HSC.out)⟩
  case round =>
    obtain ⟨k, hk1, hk2, rfl, HTR, HSR⟩ := hrel
    have HBR := Lib.hid (HBC.out.touch HTR.out HQ.out.2.2.2.1)
    by_cases hlt : k < E
    · have hlt' : (k : Int) < (E : Int) := by omega
      have hls' : (k : Int) < (η.s.length : Int) := by rw [HLS.out]; omega
      obtain ⟨x, hx⟩ : ∃ x, (setR η.s A k)[k]? = some x := ⟨_, List.getElem?_eq_getElem (by rw [setR_len, HLS.out]; omega)⟩
      obtain ⟨g, o, rfl, hc, hg, hf, hnc, hgo⟩ := HSR.out.byte hx
      have r2 := HBR.out.cell 2
      have rl := HBR.out.lt
      have fr := hf (o + k)
      simp only [hcells, List.getElem?_cons_zero, List.getElem?_cons_succ] at r2
      clear hx hf
      go_wp2_with fail
      go_roundw
      case rel => exact ⟨k + 1, by omega, by omega, by go_num, Lib.hid (HTR.out.set (.inl hgo) _), Lib.hid (by rw [setR_succ _ _ _ hk1]; exact HSR.out.set_byte k 1)⟩
      case measure => simp [intOf]; omega
    · obtain rfl : E = k := by omega
      obtain ⟨fs, hfs⟩ : ∃ fs, fs = if φ then 1 else η.finS := ⟨_, rfl⟩
      have HFS := Lib.hid hfs
      clear hfs b0 b1 b2 b3 b4 bl
      have r4 := HBR.out.cell 4
      have fr4 := HBR.out.frozen 4
      have rl := HBR.out.lt
      simp only [hcells, List.getElem?_cons_zero, List.getElem?_cons_succ] at r4
      go_upto_if 186 with fail
      go_cut [] (fun wx => Hid (Touch [p] wr wx) ∧ Hid (IsBlk wx p [.int .u64 (η.max : Int), .slice ab η.b.length cb, .slice az η.s.length cz, .bool η.fin, .int .u8 (fs : Int), .bool η.gone, .bool η.began] 68))
      case first =>
        cases φ with
        | true =>
          have HC : Hid (fs = 1) := HFS
          go_wp2_with fail
          go_meet
          case rel => exact ⟨Lib.hid ((Touch.refl [p] wr).set (.inl (by simp)) _), Lib.hid (by rw [HC.out]; exact HBR.out.set 4 _)⟩
        | false =>
          have HC : Hid (fs = η.finS) := HFS
          go_wp2_with fail
          go_meet
          case rel => exact ⟨Lib.hid (Touch.refl _ _), Lib.hid (by rw [HC.out]; exact HBR.out)⟩
      case rest =>
      clear r4 fr4 rl
      obtain ⟨HT5, HB5⟩ := hcut
      obtain ⟨i0, hi0, hz0, hz1, hz2⟩ := info_parts info5
      have f6 := HB5.out.frozen 6
      have b1 := HB5.out.cell 6
      have bl := HB5.out.lt
      simp only [List.getElem?_cons_zero, List.getElem?_cons_succ] at b1
      go_upto_region 31 with fail
      obtain ⟨W6, hW6⟩ : ∃ W6, W6 = wc.setCell ⟨p, 6, none⟩ (.bool true) := ⟨_, rfl⟩
      rw [← hW6]
      have HT6 : Hid (Touch [p] wr W6) := Lib.hid (by rw [hW6]; exact HT5.out.set (.inl (by simp)) _)
      have HB6 : Hid (IsBlk W6 p [.int .u64 (η.max : Int), .slice ab η.b.length cb, .slice az η.s.length cz, .bool η.fin, .int .u8 (fs : Int), .bool η.gone, .bool true] 68) := Lib.hid (by rw [hW6]; exact HB5.out.set 6 _)
      clear hW6 b1 f6 bl
      have HT0 : Hid (Touch (p :: own (.slice az η.s.length cz)) w W6) := Lib.hid (((HTC.out.mono (by simp)).trans HTR.out (fun g hg => .inl (by simp [hg]))).trans HT6.out (fun g hg => .inl (by simp at hg; simp [hg])))
      have HS6 : Hid (Sl W6 5 1 (.slice az η.s.length cz) η.s.length (bs (setR η.s A E))) := Lib.hid (HSR.out.touch HT6.out (fun g hg hm => HQ.out.2.2.2.1 (by simp at hm; rw [← hm]; exact hg)))
      have HSb : Hid (Sl W6 5 1 (.slice ab η.b.length cb) η.b.length (bs η.b)) := Lib.hid (HQ.out.1.touch HT0.out (fun g hg hm => by
        rcases List.mem_cons.1 hm with rfl | hm
        · exact HQ.out.2.2.1 hg
        · exact HQ.out.2.2.2.2 g hg hm))
      have HOS : Hid ((sentH η A E φ).Ok) := Lib.hid (by
        have hok := HOK.out
        refine ⟨by show (setR _ _ _).length = _; rw [setR_len]; exact hok.s, hok.len, hok.max, ?_, fun x hx => ?_⟩
        · show (if φ then 1 else η.finS) ≤ 3
          have := hok.fin
          split <;> omega
        · obtain ⟨i, hi⟩ := List.mem_iff_getElem?.1 (show x ∈ setR η.s A E from hx)
          rw [setR_get] at hi
          cases hs : η.s[i]? with
          | none => rw [hs] at hi; cases hi
          | some y =>
            rw [hs] at hi
            have hy := hok.lt y (List.mem_of_getElem? hs)
            simp only [Option.map_some, Option.some.injEq] at hi
            subst hi
            split <;> omega)
      have HEND : Hid (∀ a' c' w', Sl w' 5 1 (.slice a' (E - A) c') (E - A) (bs ((η.b.drop A).take (E - A))) → Touch [] W6 w' → (∀ g ∈ own (.slice a' (E - A) c'), W6.heap.size ≤ g) → ∃ v, Value.slice a' (E - A) c' = v ∧ Rd w' 1 v (E - A) (bs ((η.b.drop A).take (E - A))) ∧ StepHV w p F (sentH η A E φ) w' v ∧ ∀ g ∈ own v, w.heap.size ≤ g) := Lib.hid (fun a' c' w' k1 k2 k3 => by
        obtain ⟨h2, h3, d1, d2, d3⟩ := HQ.out
        have hs := HT0.out.size
        refine ⟨_, rfl, k1.rd, ⟨F, ⟨ab, az, cb, cz, ?_, HSb.out.touch k2 (by simp), ?_, ?_, d1, ?_, ?_, HOS.out⟩, ?_, fun g hg => .inl hg, fun g hg hm => ?_⟩, fun g hg => by have := k3 g hg; omega⟩
        · show IsBlk w' p [_, _, .slice az (setR η.s A E).length cz, _, .int .u8 ((if φ then 1 else η.finS : Nat) : Int), _, .bool true] 68
          rw [setR_len, ← HFS.out]
          exact HB6.out.touch k2 (by simp)
        · show Sl w' 5 1 (.slice az (setR η.s A E).length cz) (setR η.s A E).length _
          rw [setR_len]
          exact HS6.out.touch k2 (by simp)
        · show F = p :: (_ ++ own (.slice az (setR η.s A E).length cz))
          rw [setR_len]
          exact HF.out
        · show p ∉ own (.slice az (setR η.s A E).length cz)
          rw [setR_len]
          exact d2
        · show ∀ g ∈ own (.slice ab η.b.length cb), g ∉ own (.slice az (setR η.s A E).length cz)
          rw [setR_len]
          exact d3
        · rw [HF.out]
          exact (HT0.out.mono (fun g hg => .inl (by
            rcases List.mem_cons.1 hg with rfl | hg
            · simp
            · simp [hg]))).trans k2 (by simp)
        · have h5 := k3 g hg
          have h6 := HH.out.lt g hm
          omega)
      have b1 := HB6.out.cell 1
      have bl := HB6.out.lt
      simp only [List.getElem?_cons_zero, List.getElem?_cons_succ] at b1
      have hwA : IntKind.u64.wrap (A : Int) = (A : Int) := IntWalk.u64_in _ (by omega)
      have q1 : (A : Int) ≤ (E : Int) := by omega
      have q0 : E ≤ η.b.length := HP.out.hi
      have HQ0 := Lib.hid q0
      rcases HSb.out.cases with ⟨he, h0, _⟩ | ⟨g, off, cap, he, hnc, _, _, _, _⟩
      · simp at he
        obtain ⟨rfl, hb0, rfl⟩ := he
        obtain rfl : A = 0 := by omega
        obtain rfl : E = 0 := by omega
        rw [hb0] at b1
        have HR : Hid (Rd W6 1 (.slice none 0 0) 0 (bs ((η.b.drop 0).take 0))) := Lib.hid ⟨by simp [bs], .inl ⟨_, _, rfl, rfl⟩⟩
        clear q0 hb0 h0
        go_wp2_with (at_builtin; refine wpList_append_sl _ rfl _ _ 22 rfl 5 i0 _ 1 1 under22 hi0 hz0 hz1 hz2 rfl (by omega) (.slice none 0 0) 0 [] rfl (Sl.nil _ _ _) (.slice none 0 0) 0 (bs ((η.b.drop 0).take 0)) rfl HR.out (bs_one _) (by unfold maxLen; omega) (by omega) fun a' c' w' k1 k2 k3 k4 => ?_; have K1 := Lib.hid k1; have K2 := Lib.hid k2; have K3 := Lib.hid k3; clear k1 k2 k3 k4)
        refine bodyPost_ret (v := .tuple #[.int .u64 ((0 : Nat) : Int), .slice a' 0 c', .bool φ, .bool true]) (by simp [results, Try.results22, go_sem]) rfl ?_
        obtain ⟨v, e1, e2⟩ := HEND.out a' c' w' (by simpa using K1.out) K2.out (fun g hg => (K3.out g hg).elim (fun h => by simp at h) id)
        exact ⟨fun h => (HN.out (by simpa using h)).elim, fun _ => ⟨v, by rw [← e1]; rfl, e2⟩⟩
      · simp at he
        obtain ⟨rfl, rfl⟩ := he
        have q2 : (E : Int) ≤ (cb : Int) := by omega
        have HPR := Lib.hid (part_rd HSb.out.rd rfl A E (by omega) q0 hnc)
        have HNC := Lib.hid hnc
        clear q0 hnc
        by_cases hca : cb = A
        · have HR := Lib.hid (HPR.out.1 hca)
          have HEA : Hid (E = A) := Lib.hid (by have := HNC.out; have := HQ0.out; omega)
          obtain rfl : E = cb := by rw [HEA.out, hca]
          subst hca
          clear q2 q1
          have HR0 : Hid (Rd W6 1 (.slice (some ⟨g, off, none⟩) 0 0) 0 (bs ((η.b.drop E).take 0))) := Lib.hid (by have := HR.out; rw [Nat.sub_self] at this; exact this)
          go_wp2_with (at_builtin; refine wpList_append_sl _ rfl _ _ 22 rfl 5 i0 _ 1 1 under22 hi0 hz0 hz1 hz2 rfl (by omega) (.slice none 0 0) 0 [] rfl (Sl.nil _ _ _) (.slice (some ⟨g, off, none⟩) 0 0) 0 (bs ((η.b.drop E).take 0)) rfl HR0.out (bs_one _) (by unfold maxLen; omega) (by omega) fun a' c' w' k1 k2 k3 k4 => ?_; have K1 := Lib.hid k1; have K2 := Lib.hid k2; have K3 := Lib.hid k3; clear k1 k2 k3 k4)
          refine bodyPost_ret (v := .tuple #[.int .u64 (E : Int), .slice a' 0 c', .bool φ, .bool true]) (by simp [results, Try.results22, go_sem]) rfl ?_
          obtain ⟨v, e1, e2⟩ := HEND.out a' c' w' (by rw [Nat.sub_self]; simpa using K1.out) K2.out (fun g hg => (K3.out g (by simpa using hg)).elim (fun h => by simp at h) id)
          exact ⟨fun h => (HN.out (by simpa using h)).elim, fun _ => ⟨v, by rw [← e1, Nat.sub_self], by simpa using e2⟩⟩
        · have HR := Lib.hid (HPR.out.2 hca)
          go_wp2_with (at_builtin; refine wpList_append_sl _ rfl _ _ 22 rfl 5 i0 _ 1 1 under22 hi0 hz0 hz1 hz2 rfl (by omega) (.slice none 0 0) 0 [] rfl (Sl.nil _ _ _) (.slice (some ⟨g, off + A, none⟩) (E - A) (cb - A)) (E - A) (bs ((η.b.drop A).take (E - A))) rfl HR.out (bs_one _) (by unfold maxLen; omega) (by omega) fun a' c' w' k1 k2 k3 k4 => ?_; have K1 := Lib.hid k1; have K2 := Lib.hid k2; have K3 := Lib.hid k3; clear k1 k2 k3 k4)
          refine bodyPost_ret (v := .tuple #[.int .u64 (A : Int), .slice a' (0 + (E - A)) c', .bool φ, .bool true]) (by simp [results, Try.results22, go_sem]) rfl ?_
          obtain ⟨v, e1, e2⟩ := HEND.out a' c' w' (by simpa using K1.out) K2.out (fun g hg => (K3.out g (by simpa using hg)).elim (fun h => by simp at h) id)
          exact ⟨fun h => (HN.out (by simpa using h)).elim, fun _ => ⟨v, by rw [← e1, Nat.zero_add], e2⟩⟩
end Go.Proofs.Ytmidlielcioinaa
