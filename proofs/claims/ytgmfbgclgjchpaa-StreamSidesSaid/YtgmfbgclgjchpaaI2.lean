/- The walk of the statement on sides. Conditions: the bytes fit their kind. -/
import Derived.Test.YtgmfbgclgjchpaaK
import Derived.Deep.RegionHeld3
import Derived.StillTailTactics
namespace Go.Proofs.Ytgmfbgclgjchpaa
open Go.RowKit Go.Maps Go.WideMaps

section
variable {odd : Bool} {px py n : Nat} {X Y a b : Int} {w : World}
def Case2 (odd : Bool) (px py n : Nat) (X Y a b : Int) : Prop := (odd = false ∧ px = n ∧ py = n + 1 ∧ X = a ∧ Y = b) ∨ (odd = true ∧ px = n + 1 ∧ py = n ∧ X = b ∧ Y = a)
theorem sides_held {p px : Nat} {X kd fl : Int} {wv wz : World} (h1 : IsBlk wv px [.int .i64 X] 3) (h2 : IsBlk wv p [.int .u8 kd, .int .u8 fl, .int .u32 0, .slice none 0 0] 26) (hb : Below wv.heap.size wv.drew wz) :
    Below wv.heap.size wv wz ∧ wz.cell? ⟨px, 0, none⟩ = some (.int .i64 X) ∧ wz.cell? ⟨p, 0, none⟩ = some (.int .u8 kd) ∧ wz.cell? ⟨p, 1, none⟩ = some (.int .u8 fl) ∧ wz.cell? ⟨p, 2, none⟩ = some (.int .u32 0) ∧ wz.cell? ⟨p, 3, none⟩ = some (.slice none 0 0) := by
  have hb' : Below wv.heap.size wv wz := (Below.refl _ _).drew.trans hb
  have h3 := h1.below hb' h1.lt
  have h4 := h2.below hb' h2.lt
  exact ⟨hb', h3.cell 0, h4.cell 0, h4.cell 1, h4.cell 2, h4.cell 3⟩
theorem sides_cut0 (h : Case2 false px py n X Y a b) : w = w ∧ Value.pointer (some ⟨n, 0, none⟩) = Value.pointer (some ⟨px, 0, none⟩) ∧ Value.pointer (some ⟨n + 1, 0, none⟩) = Value.pointer (some ⟨py, 0, none⟩) := by
  rcases h with ⟨_, rfl, rfl, _⟩ | ⟨h, _⟩
  · exact ⟨rfl, rfl, rfl⟩
  · cases h
theorem sides_cut1 (h : Case2 true px py n X Y a b) : w = w ∧ Value.pointer (some ⟨n + 1, 0, none⟩) = Value.pointer (some ⟨px, 0, none⟩) ∧ Value.pointer (some ⟨n, 0, none⟩) = Value.pointer (some ⟨py, 0, none⟩) := by
  rcases h with ⟨h, _⟩ | ⟨_, rfl, rfl, _⟩
  · cases h
  · exact ⟨rfl, rfl, rfl⟩
theorem sides_x (h : Case2 odd px py n X Y a b) (h1 : IsBlk w n [.int .i64 a] 3) (h2 : IsBlk w (n + 1) [.int .i64 b] 3) : IsBlk w px [.int .i64 X] 3 := by
  rcases h with ⟨_, rfl, rfl, rfl, rfl⟩ | ⟨_, rfl, rfl, rfl, rfl⟩ <;> assumption
theorem sides_y (h : Case2 odd px py n X Y a b) (h1 : IsBlk w n [.int .i64 a] 3) (h2 : IsBlk w (n + 1) [.int .i64 b] 3) : IsBlk w py [.int .i64 Y] 3 := by
  rcases h with ⟨_, rfl, rfl, rfl, rfl⟩ | ⟨_, rfl, rfl, rfl, rfl⟩ <;> assumption
theorem sides_pair (h : Case2 odd px py n X Y a b) (hp : Pair a b) : Pair X Y := by
  rcases h with ⟨_, _, _, rfl, rfl⟩ | ⟨_, _, _, rfl, rfl⟩
  · exact hp
  · exact hp.swap
theorem sides_ne {B : Nat} (h : Case2 odd px py n X Y a b) (hB : B ≤ n) : B ≤ px ∧ B ≤ py ∧ px ≠ py := by
  rcases h with ⟨_, rfl, rfl, _⟩ | ⟨_, rfl, rfl, _⟩ <;> omega
theorem sides_back {X' Y' : Int} (h : Case2 odd px py n X Y a b) (h1 : IsBlk w px [.int .i64 X'] 3) (h2 : IsBlk w py [.int .i64 Y'] 3) (hp : Pair X' Y') : ∃ a' b', Pair a' b' ∧ IsBlk w n [.int .i64 a'] 3 ∧ IsBlk w (n + 1) [.int .i64 b'] 3 := by
  rcases h with ⟨_, rfl, rfl, _⟩ | ⟨_, rfl, rfl, _⟩
  · exact ⟨_, _, hp, h1, h2⟩
  · exact ⟨_, _, hp.swap, h2, h1⟩
theorem sides_skip {bk bx : Bool} {kd : Int} (h : ¬ (bk = true ∧ bx = true ∧ odd = true)) (h1 : (kd == 1) = bk) (h2 : (X == 0) = bx) : ¬ (kd = 1 ∧ X = 0 ∧ odd = true) := by
  rintro ⟨rfl, rfl, h3⟩
  exact h ⟨by rw [← h1]; rfl, by rw [← h2]; rfl, h3⟩
end
theorem tbl (m : Nat) (h : m < 8) : #[Value.int .u8 1, .int .u8 0, .int .u8 1, .int .u8 0, .int .u8 3, .int .u8 8, .int .u8 2, .int .u8 9][m] = .int .u8 (kindAt m) := by
  match m, h with
  | 0, _ | 1, _ | 2, _ | 3, _ | 4, _ | 5, _ | 6, _ | 7, _ => rfl

set_option maxRecDepth 100000 in
set_option maxHeartbeats 8000000 in
theorem sides_walk (a0 : Option Addr) (cap : Nat) (xs : List Int) (w : World) (hx : IsU w a0 xs) (hb : ∀ x ∈ xs, 0 ≤ x ∧ x ≤ 255) (hl : xs.length ≤ 40) :
    Calls Try.prog 3 #[.slice a0 xs.length cap] w fun e w' => e = .returned (.bool true) ∧ Below w.heap.size w w' := by
  have HX := Lib.hid hx
  have HV := Lib.hid hb
  clear hx hb
  go_enter Try.func3, Try.ntmps3
  go_wp2_with fail
  refine (known_any _).mono ?_
  rintro e w1 ⟨rfl, hb⟩
  have HB1 := Lib.hid hb
  clear hb
  go_wp2_with fail
  generalize hW : (w1.alloc (.cells #[.int .i64 0] 3)).alloc (.cells #[.int .i64 0] 3) = W
  have HA := Lib.hid (show IsBlk W w1.heap.size [.int .i64 0] 3 from by rw [← hW]; exact (IsBlk.new _ _ _).alloc _)
  have HC := Lib.hid (show IsBlk W (w1.heap.size + 1) [.int .i64 0] 3 from by
    rw [← hW]
    have := IsBlk.new (w1.alloc (.cells #[.int .i64 0] 3)) [.int .i64 0] 3
    rw [World.size_alloc] at this
    exact this)
  have HB2 := Lib.hid (show Below w.heap.size w W from by rw [← hW]; exact (HB1.out.alloc HB1.out.size _).alloc (by have := HB1.out.size; simp; omega) _)
  have HN := Lib.hid HB1.out.size
  clear hW HB1
  go_loopw [5, 7, 8, 9, 10, 11, 12, 6] (fun i _ _ _ _ _ _ _ wr => ∃ (k : Nat) (a b : Int), k ≤ xs.length ∧ i = .int .i64 (k : Int) ∧ Pair a b ∧
      IsBlk wr w1.heap.size [.int .i64 a] 3 ∧ IsBlk wr (w1.heap.size + 1) [.int .i64 b] 3 ∧ Below w.heap.size w wr) (fun i _ _ _ _ _ _ _ _ => xs.length - (intOf i).toNat)
  case atStart => exact ⟨0, 0, 0, by omega, rfl, Pair.start, HA.out, HC.out, HB2.out⟩
  case round =>
    obtain ⟨k, a, b, hk, rfl, hab, hA, hC, hbel⟩ := hrel
    have HAB := Lib.hid hab
    have HAA := Lib.hid hA
    have HCC := Lib.hid hC
    have HBB := Lib.hid hbel
    clear hab hA hC hbel
    by_cases hlt : k < xs.length
    · obtain ⟨x, hxk⟩ : ∃ x, xs.getD k 0 = x := ⟨_, rfl⟩
      have hv := HV.out x (by rw [← hxk]; exact getD_mem xs k hlt)
      rcases HX.out with rfl | ⟨bb, off, rfl, hbl, hc⟩
      · simp at hlt
      have hcx : wr.cell? ⟨bb, off + k, none⟩ = some (.int .u8 x) := by rw [(bcell HBB.out).1 _ _ hbl, hc k hlt, hxk]
      clear hc
      have HCX := Lib.hid hcx
      have hbw : bb < wr.heap.size := by have := HBB.out.size; omega
      have q1 : Int.tdiv x 4 = x / 4 := Int.tdiv_eq_ediv_of_nonneg hv.1
      have q2 : Int.tdiv x 2 = x / 2 := Int.tdiv_eq_ediv_of_nonneg hv.1
      have q3 : Int.tmod (x / 4) 8 = x / 4 % 8 := Int.tmod_eq_emod_of_nonneg (by omega)
      have q4 : Int.tmod (x / 2) 2 = x / 2 % 2 := Int.tmod_eq_emod_of_nonneg (by omega)
      have q5 : Int.tmod x 2 = x % 2 := Int.tmod_eq_emod_of_nonneg hv.1
      have hk8 : x / 4 % 8 = 0 ∨ x / 4 % 8 = 1 ∨ x / 4 % 8 = 2 ∨ x / 4 % 8 = 3 ∨ x / 4 % 8 = 4 ∨ x / 4 % 8 = 5 ∨ x / 4 % 8 = 6 ∨ x / 4 % 8 = 7 := by omega
      have hf2 : x / 2 % 2 = 0 ∨ x / 2 % 2 = 1 := by omega
      have HF2 := Lib.hid hf2
      have HBS := Lib.hid HBB.out.size
      go_upto_region 9 with fail
      go_cut [6] (fun s6 wx => ∃ (p n : Nat), s6 = .pointer (some ⟨p, 0, none⟩) ∧ n < 8 ∧ wr.heap.size ≤ p ∧ IsBlk wx p [.int .u8 (kindAt n), .int .u8 (x / 2 % 2), .int .u32 0, .slice none 0 0] 26 ∧ Below wr.heap.size wr wx)
      case first =>
        obtain ⟨m, hm⟩ : ∃ m : Nat, x / 4 % 8 = (m : Int) := ⟨(x / 4 % 8).toNat, by omega⟩
        have hm8 : m < 8 := by omega
        rw [hm] at q3
        have hT := tbl m hm8
        clear hf2 hm hk8
        go_region
        all_goals
          go_wp2_with fail
          go_meet
          refine ⟨_, m, rfl, hm8, by omega, ?_, (((Below.refl _ _).alloc (Nat.le_refl _) _).alloc (by simp) _).drew⟩
          first
            | exact (IsBlk.new wr [.int .u8 (kindAt m), .int .u8 (x / 2 % 2), .int .u32 0, .slice none 0 0] 26).alloc _
            | (have h := IsBlk.new (wr.alloc (.cells #[.int .u8 1, .int .u8 0, .int .u8 1, .int .u8 0, .int .u8 3, .int .u8 8, .int .u8 2, .int .u8 9] 5)) [.int .u8 (kindAt m), .int .u8 (x / 2 % 2), .int .u32 0, .slice none 0 0] 26; rw [World.size_alloc] at h; exact h)
      case rest =>
        obtain ⟨p, n, rfl, hn, hp, hF, hbel⟩ := hcut
        obtain ⟨wv, rfl⟩ : ∃ wv : World, wv = wc := ⟨_, rfl⟩
        clear hcx hf2 hk8
        obtain ⟨fl, hfl⟩ : ∃ fl, x / 2 % 2 = fl := ⟨_, rfl⟩
        have HF3 := Lib.hid (show fl = 0 ∨ fl = 1 from by rw [← hfl]; exact HF2.out)
        rw [hfl] at hF
        obtain ⟨kd, hkn⟩ : ∃ kd, kindAt n = kd := ⟨_, rfl⟩
        have HKD := Lib.hid (show 0 ≤ kd ∧ kd ≤ 255 from by rw [← hkn]; exact kindAt_bd n hn)
        rw [hkn] at hF
        have HKN := Lib.hid hkn
        have HFr := Lib.hid hF
        have HA1 := Lib.hid (HAA.out.below hbel HAA.out.lt)
        have HC1 := Lib.hid (HCC.out.below hbel HCC.out.lt)
        have HB3 := Lib.hid (HBB.out.trans (hbel.mono HBB.out.size))
        have hcx : wv.cell? ⟨bb, off + k, none⟩ = some (.int .u8 x) := by rw [(bcell hbel).1 _ _ hbw]; exact HCX.out
        have HBW3 := Lib.hid (show bb < wv.heap.size from by have := hbel.size; omega)
        have HNN := Lib.hid hn
        have HPP := Lib.hid hp
        clear hF hbel hn hp hfl hkn
        obtain ⟨par, hpar⟩ : ∃ par, x % 2 = par := ⟨_, rfl⟩
        have q6 : Int.tmod x 2 = par := by rw [q5, hpar]
        obtain ⟨odd, hodd⟩ : ∃ odd : Bool, (par == 1) = odd := ⟨_, rfl⟩
        clear q5 q1 q2 q3 q4 hpar
        obtain ⟨px, py, X, Y, hca⟩ : ∃ px py X Y, Case2 odd px py w1.heap.size X Y a b := by
          cases odd
          · exact ⟨_, _, _, _, .inl ⟨rfl, rfl, rfl, rfl, rfl⟩⟩
          · exact ⟨_, _, _, _, .inr ⟨rfl, rfl, rfl, rfl, rfl⟩⟩
        have HCA := Lib.hid hca
        clear hca
        have HPX := Lib.hid (sides_x HCA.out HA1.out HC1.out)
        have HPY := Lib.hid (sides_y HCA.out HA1.out HC1.out)
        have HPR := Lib.hid (sides_pair HCA.out HAB.out)
        have HNE := Lib.hid (sides_ne HCA.out HN.out)
        obtain ⟨s1, e1, hs⟩ : ∃ s1 e1, sendF X kd fl = (s1, e1) := ⟨_, _, rfl⟩
        obtain ⟨t1, r1, ht⟩ : ∃ t1 r1, recvF Y kd fl = (t1, r1) := ⟨_, _, rfl⟩
        have HS1 := Lib.hid hs
        have HT1 := Lib.hid ht
        clear hs ht
        go_upto_if 45 with fail
        go_cut [7, 8] (fun s7 s8 wx => wx = wv ∧ s7 = .pointer (some ⟨px, 0, none⟩) ∧ s8 = .pointer (some ⟨py, 0, none⟩))
        case first =>
          have h := HCA.out
          cases odd
          · go_wp2_with fail
            go_meet
            exact sides_cut0 h
          · go_wp2_with fail
            go_meet
            exact sides_cut1 h
        case rest =>
          obtain ⟨hwv, rfl, rfl⟩ := hcut
          subst hwv
          obtain ⟨wv, rfl⟩ : ∃ w' : World, w' = wc := ⟨_, rfl⟩
          go_upto_region 13 with fail
          obtain ⟨f0, f1, f2, f3⟩ := four HFr.out
          have ax := HPX.out.cell 0
          have cx := HPY.out.cell 0
          simp only [List.getElem?_cons_zero] at ax cx
          go_cut [9, 10] (fun s9 s10 wz => s9 = .int .i64 s1 ∧ s10 = .int .i64 e1 ∧ Below wv.heap.size wv wz)
          case first =>
            clear ax cx f0 f1 f2 f3
            have hS : Below wv.heap.size wv wv := Below.refl _ _
            have ax := HPX.out.cell 0
            obtain ⟨f0, f1, f2, f3⟩ := four HFr.out
            simp only [List.getElem?_cons_zero] at ax
            go_region_held3 (fun w' => Below wv.heap.size wv w' ∧ w'.cell? ⟨px, 0, none⟩ = some (.int .i64 X) ∧ w'.cell? ⟨p, 0, none⟩ = some (.int .u8 kd) ∧ w'.cell? ⟨p, 1, none⟩ = some (.int .u8 fl) ∧ w'.cell? ⟨p, 2, none⟩ = some (.int .u32 0) ∧ w'.cell? ⟨p, 3, none⟩ = some (.slice none 0 0)) ((refine sides_held HPX.out HFr.out ?_; first | assumption | (with_reducible exact Below.refl _ _)))
              (first | (go_at_call 6; refine (send_at X kd fl s1 e1 _ HPR.out.bd.1 HKD.out HF3.out HS1.out).mono ?_; rintro e wz ⟨rfl, hb⟩))
            all_goals
              go_wp2_with fail
              go_meet
              exact ⟨rfl, rfl, And.left (by assumption)⟩
          case rest =>
            obtain ⟨rfl, rfl, hb⟩ := hcut
            obtain ⟨wz, rfl⟩ : ∃ wz : World, wz = wc := ⟨_, rfl⟩
            have HZ := Lib.hid hb
            have HF4 := Lib.hid (HFr.out.below HZ.out HFr.out.lt)
            have HX4 := Lib.hid (HPX.out.below HZ.out HPX.out.lt)
            have HY4 := Lib.hid (HPY.out.below HZ.out HPY.out.lt)
            have HB4 := Lib.hid (HB3.out.trans (HZ.out.mono HB3.out.size))
            have hcx4 : wz.cell? ⟨bb, off + k, none⟩ = some (.int .u8 x) := by rw [(bcell HZ.out).1 _ _ HBW3.out]; exact hcx
            clear f0 f1 f2 f3 ax cx hcx HZ hb
            by_cases he : e1 = 0
            · subst he
              have ax := HX4.out.cell 0
              have cx := HY4.out.cell 0
              simp only [List.getElem?_cons_zero] at ax cx
              obtain ⟨f0, f1, f2, f3⟩ := four HF4.out
              obtain ⟨bk, hbk⟩ : ∃ bk : Bool, (kd == 1) = bk := ⟨_, rfl⟩
              obtain ⟨bx, hbx⟩ : ∃ bx : Bool, (X == 0) = bx := ⟨_, rfl⟩
              have HBK := Lib.hid hbk
              have HBX := Lib.hid hbx
              by_cases hskip : bk = true ∧ bx = true ∧ odd = true
              · obtain ⟨rfl, rfl, rfl⟩ := hskip
                go_wp2_with fail
                go_roundw
                case rel =>
                  obtain ⟨a', b', g1, g2, g3⟩ := sides_back HCA.out HX4.out HY4.out HPR.out
                  exact ⟨k + 1, a', b', by omega, by go_num, g1, g2, g3, HB4.out⟩
                case measure => simp [intOf]; omega
              · have HSK := Lib.hid (sides_skip hskip hbk hbx)
                have hlaw := step_law (s := s1) (e := 0) (t := t1) (r := r1) HPR.out HNN.out HF3.out odd (by rw [HKN.out]; exact HS1.out) (by rw [HKN.out]; exact HT1.out) rfl (by rw [HKN.out]; exact HSK.out)
                have HP2 := Lib.hid hlaw.2
                have HR := Lib.hid hlaw.1
                clear hlaw
                have HBO := Lib.hid hskip
                clear hskip
                have hways : bk = false ∨ (bk = true ∧ bx = false) ∨ (bk = true ∧ bx = true ∧ odd = false) := by
                  have := HBO.out
                  cases bk <;> cases bx <;> cases odd <;> simp_all
                clear HBO HSK
                rcases hways with rfl | ⟨rfl, rfl⟩ | ⟨rfl, rfl, rfl⟩
                all_goals
                  go_upto_region 16 with fail
                  go_cut [11, 12] (fun s11 s12 wy => s11 = .int .i64 t1 ∧ s12 = .int .i64 r1 ∧ Below wz.heap.size wz wy)
                  case first =>
                    clear ax cx f0 f1 f2 f3
                    have hS : Below wz.heap.size wz wz := Below.refl _ _
                    have ax := HY4.out.cell 0
                    obtain ⟨f0, f1, f2, f3⟩ := four HF4.out
                    simp only [List.getElem?_cons_zero] at ax
                    go_region_held3 (fun w' => Below wz.heap.size wz w' ∧ w'.cell? ⟨py, 0, none⟩ = some (.int .i64 Y) ∧ w'.cell? ⟨p, 0, none⟩ = some (.int .u8 kd) ∧ w'.cell? ⟨p, 1, none⟩ = some (.int .u8 fl) ∧ w'.cell? ⟨p, 2, none⟩ = some (.int .u32 0) ∧ w'.cell? ⟨p, 3, none⟩ = some (.slice none 0 0)) ((refine sides_held HY4.out HF4.out ?_; first | assumption | (with_reducible exact Below.refl _ _)))
                      (first | (go_at_call 7; refine (recv_at Y kd fl t1 r1 _ HPR.out.bd.2 HKD.out HF3.out HT1.out).mono ?_; rintro e wy ⟨rfl, hb⟩))
                    all_goals
                      go_wp2_with fail
                      go_meet
                      exact ⟨rfl, rfl, And.left (by assumption)⟩
                  case rest =>
                    obtain ⟨rfl, rfl, hb⟩ := hcut
                    obtain ⟨wy, rfl⟩ : ∃ wy : World, wy = wc := ⟨_, rfl⟩
                    have HY := Lib.hid hb
                    have HX5 := Lib.hid (HX4.out.below HY.out HX4.out.lt)
                    have HY5 := Lib.hid (HY4.out.below HY.out HY4.out.lt)
                    have HB5 := Lib.hid (HB4.out.trans (HY.out.mono HB4.out.size))
                    clear f0 f1 f2 f3 ax cx hcx4 HY hb hbk hbx
                    have ax := HX5.out.cell 0
                    have cx := HY5.out.cell 0
                    have ga := HX5.out.frozen 0
                    have gc := HY5.out.frozen 0
                    have hn1 := HNE.out.2.2
                    have hn2 := HNE.out.2.2.symm
                    have cx2 : ∀ v, (wy.setCell ⟨px, 0, none⟩ v).cell? ⟨py, 0, none⟩ = some (.int .i64 Y) := fun v => (HY5.out.set_other hn1 v).cell 0
                    have gc2 : ∀ v, (wy.setCell ⟨px, 0, none⟩ v).frozen? ⟨py, 0, none⟩ = false := fun v => (HY5.out.set_other hn1 v).frozen 0
                    simp only [List.getElem?_cons_zero] at ax cx
                    by_cases hr0 : r1 = 0
                    · subst hr0
                      go_wp2_with fail
                      go_roundw
                      case rel =>
                        obtain ⟨a', b', g1, g2, g3⟩ := sides_back HCA.out ((HX5.out.set 0 _).set_other HNE.out.2.2.symm _) ((HY5.out.set_other HNE.out.2.2 _).set 0 _) HP2.out
                        exact ⟨k + 1, a', b', by omega, by go_num, g1, g2, g3, (HB5.out.setCell HNE.out.1 _).setCell HNE.out.2.1 _⟩
                      case measure => simp [intOf]; omega
                    · have hr1 : (r1 != 0) = true := by simpa using hr0
                      have hr2 : (r1 == 0) = false := by simpa using hr0
                      have hy4 : Y = 4 := HR.out.resolve_left hr0
                      have hy5 : (Y != 4) = false := by simp [hy4]
                      have hy6 : (Y == 4) = true := by simp [hy4]
                      clear hr0 hy4
                      go_wp2_with fail
                      go_roundw
                      case rel =>
                        obtain ⟨a', b', g1, g2, g3⟩ := sides_back HCA.out ((HX5.out.set 0 _).set_other HNE.out.2.2.symm _) ((HY5.out.set_other HNE.out.2.2 _).set 0 _) HP2.out
                        exact ⟨k + 1, a', b', by omega, by go_num, g1, g2, g3, (HB5.out.setCell HNE.out.1 _).setCell HNE.out.2.1 _⟩
                      case measure => simp [intOf]; omega
            · have he1 : (e1 != 0) = true := by simpa using he
              have he2 : (e1 == 0) = false := by simpa using he
              clear he
              go_wp2_with fail
              go_roundw
              case rel =>
                obtain ⟨a', b', g1, g2, g3⟩ := sides_back HCA.out HX4.out HY4.out HPR.out
                exact ⟨k + 1, a', b', by omega, by go_num, g1, g2, g3, HB4.out⟩
              case measure => simp [intOf]; omega
    · obtain rfl : k = xs.length := by omega
      go_wp2_with fail
      go_ret
      exact ⟨rfl, HBB.out⟩
end Go.Proofs.Ytgmfbgclgjchpaa
