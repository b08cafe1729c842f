/-
  The law TimesTexts: its walk.
-/
import Derived.Test.YtpolhepihkbfnaaDoorParseSame
namespace Go.Proofs.YtpolhepihkbfnaaDoor
set_option linter.unusedVariables false
set_option linter.unusedSimpArgs false
open Go.RowKit
attribute [local go_sem] Up.new Up.newF

set_option maxHeartbeats 1000000 in
theorem read_any (a t : Int) (w : World) (h : mayB t = true) (h2 : a ≤ t) :
    Calls Tryd.prog 17 #[.int .i64 a, .int .i64 t] w fun e w' => e = .returned (.int .i64 t) ∧ w = w' := by
  have hc := fun W => may_any t W
  rw [h] at hc
  go_enter Tryd.func17, Tryd.ntmps17
  go_wp2_with ((go_at_call 35; refine (hc _).mono ?_; rintro e _ ⟨rfl, rfl⟩))
  go_ret
  exact ⟨rfl, rfl⟩

theorem wake_text : strOfNums (civL (atY (tq 951782399)) (atM (tq 951782399)) (atD (tq 951782399)) (tr 951782399 / 3600) (tr 951782399 % 3600 / 60) (tr 951782399 % 60)) = ⟨#[50, 48, 48, 48, 45, 48, 50, 45, 50, 56, 32, 50, 51, 58, 53, 57, 58, 53, 57]⟩ := by rfl

set_option maxRecDepth 100000 in
set_option maxHeartbeats 1000000 in
theorem wakes05_any (w : World) (hT : LongTab w) :
    Calls Tryd.prog 5 #[] w fun e w' => e = .returned (.bool true) ∧ Below w.heap.size w w' := by
  have h1 := Calls.toUp (tof_any 2000 2 28 23 59 59 w hT)
  have h2 := fun {W : World} (u : Up W) => Calls.up_of (text_yes 951782399 u.1 (by decide))
  have h3 := fun W => read_any 100 101 W (by decide) (by decide)
  rw [show tofN 2000 2 28 23 59 59 = 951782399 by decide, show okI (civB 2000 2 28 23 59 59) 150 = 0 by decide] at h1
  simp only [wake_text] at h2
  unfold civV at h1
  go_enter Tryd.func5, Tryd.ntmps5
  go_wp2_with (first | (go_at_call 16; refine h1.mono ?_; rintro e _ ⟨rfl, u, rfl⟩) | (go_at_call 6; refine (h2 u).mono ?_; rintro e _ ⟨rfl, u, rfl⟩) | (go_at_call 17; refine (h3 _).mono ?_; rintro e _ ⟨rfl, rfl⟩))
  go_ret
  exact ⟨rfl, u.2⟩

theorem parse_both (X : ByteArray) (hX : X.size ≤ 100) : ∃ (P : Int) (B : Bool),
    (∀ {W : World} (u : Up W), LongTab u.1 → Calls Tryd.prog 9 #[.string X] u.1 fun e w' => e = .returned (.tuple #[.int .i64 P, .int .i64 (okI B 151)]) ∧ ∃ v : Up W, w' = v.1) ∧
    (∀ {W : World} (u : Up W), Calls Tryd.prog 10 #[.string X] u.1 fun e w' => e = .returned (.tuple #[.int .i64 P, .bool B]) ∧ ∃ v : Up W, w' = v.1) :=
  ⟨parseT X, parseOk X, fun u h => Calls.up_of (parse_any X u.1 hX h), fun u => Calls.up_of (rparse_any X u.1 hX)⟩
theorem extract_40 (s : ByteArray) : (s.extract 0 40).size ≤ 100 := by rw [ByteArray.size_extract]; omega

set_option maxRecDepth 100000 in
set_option maxHeartbeats 4000000 in
theorem law_timesTexts (w : World) (hT : LongTab w) (A1 A2 : Option Addr) (n1 c1 n2 c2 : Nat) (hn1 : n1 ≤ 9223372036854775807) (hn2 : n2 ≤ 9223372036854775807)
    (h1 : ∀ k, k < n1 → ∃ b off t, A1 = some ⟨b, off, none⟩ ∧ b < w.heap.size ∧ w.cell? ⟨b, off + k, none⟩ = some (.int .i64 t))
    (h2 : ∀ k, k < n2 → ∃ b off s, A2 = some ⟨b, off, none⟩ ∧ b < w.heap.size ∧ w.cell? ⟨b, off + k, none⟩ = some (.string s) ∧ s.size ≤ 9223372036854775807) :
    Calls Tryd.prog 3 #[.slice A1 n1 c1, .slice A2 n2 c2] w fun e w' => e = .returned (.bool true) ∧ Below w.heap.size w w' := by
  have hw := Calls.toUp (wakes05_any w hT)
  have H1 := Lib.hid h1
  have H2 := Lib.hid h2
  clear h1 h2
  go_enter Tryd.func3, Tryd.ntmps3
  go_upto_block 0 with ((go_at_call 5; refine hw.mono ?_; rintro e _ ⟨rfl, u, rfl⟩))
  go_cut [] (fun wx => ∃ u : Up w, wx = u.1)
  case first =>
    go_wp2_with fail
    go_loopw [19] (fun i wr => ∃ k : Nat, k ≤ n1 ∧ i = .int .i64 k ∧ ∃ u : Up w, wr = u.1) (fun i _ => n1 - (intOf i).toNat)
    case atStart => exact ⟨0, by omega, rfl, u, rfl⟩
    case round =>
      obtain ⟨k, hk, rfl, u, rfl⟩ := hrel
      by_cases hlt : k < n1
      · obtain ⟨b, off, t, rfl, hb, hc⟩ := H1.out k hlt
        have hcu := fun v : Up w => v.cell hc hb
        clear hc
        by_cases h10 : k = 10
        · subst h10
          rw [show ((10 : Nat) : Int) = 10 from rfl]
          go_wp2_with fail
          go_meet
          case rel => exact ⟨u, rfl⟩
        · have h10' : ((k : Int) == 10) = false := by simp; omega
          clear h10
          have hrt := fun W => rtime_any t W
          cases hm : mayB t
          · have htx := fun {W : World} (u : Up W) => Calls.up_of (text_no t u.1 hm)
            rw [hm] at hrt
            clear hm
            go_wp2_with (first | (go_at_call 6; refine (htx u).mono ?_; rintro e _ ⟨rfl, u, rfl⟩) | (go_at_call 7; refine (hrt _).mono ?_; rintro e _ ⟨rfl, rfl⟩))
            go_roundw
            case rel => exact ⟨k + 1, by omega, by go_num, u, rfl⟩
            case measure => simp [intOf]; omega
          · have htx := fun {W : World} (u : Up W) => Calls.up_of (text_yes t u.1 hm)
            have hrx := fun {W : World} (u : Up W) => Calls.up_of (rtext_any t u.1 hm)
            rw [hm] at hrt
            clear hm
            generalize strOfNums (civL (atY (tq t)) (atM (tq t)) (atD (tq t)) (tr t / 3600) (tr t % 3600 / 60) (tr t % 60)) = X at htx hrx
            go_wp2_with (first | (go_at_call 6; refine (htx u).mono ?_; rintro e _ ⟨rfl, u, rfl⟩) | (go_at_call 7; refine (hrt _).mono ?_; rintro e _ ⟨rfl, rfl⟩) | (go_at_call 8; refine (hrx u).mono ?_; rintro e _ ⟨rfl, u, rfl⟩))
            go_roundw
            case rel => exact ⟨k + 1, by omega, by go_num, u, rfl⟩
            case measure => simp [intOf]; omega
      · go_wp2_with fail
        go_meet
        case rel => exact ⟨u, rfl⟩
  case rest =>
    obtain ⟨u, rfl⟩ := hcut
    go_upto_block 2 with fail
    go_cut [] (fun wx => ∃ u : Up w, wx = u.1)
    case first =>
      go_wp2_with fail
      go_loopw [51] (fun i wr => ∃ k : Nat, k ≤ n2 ∧ i = .int .i64 k ∧ ∃ u : Up w, wr = u.1) (fun i _ => n2 - (intOf i).toNat)
      case atStart => exact ⟨0, by omega, rfl, u, rfl⟩
      case round =>
        obtain ⟨k, hk, rfl, u, rfl⟩ := hrel
        by_cases hlt : k < n2
        · obtain ⟨b, off, s, rfl, hb, hc, hs⟩ := H2.out k hlt
          have hcu := fun v : Up w => v.cell hc hb
          clear hc
          by_cases h20 : k = 20
          · subst h20
            rw [show ((20 : Nat) : Int) = 20 from rfl]
            go_wp2_with fail
            go_meet
            case rel => exact ⟨u, rfl⟩
          · have h20' : ((k : Int) == 20) = false := by simp; omega
            clear h20
            go_wp2_with fail
            · obtain ⟨P, B, hp, hr⟩ := parse_both _ (extract_40 s)
              cases B <;> simp only [okI_true, okI_false] at hp
              all_goals
                go_wp2_with (first | (go_at_call 9; refine (hp u (hT.below u.2)).mono ?_; rintro e _ ⟨rfl, u, rfl⟩) | (go_at_call 10; refine (hr u).mono ?_; rintro e _ ⟨rfl, u, rfl⟩))
                go_roundw
                case rel => exact ⟨k + 1, by omega, by go_num, u, rfl⟩
                case measure => simp [intOf]; omega
            · have hs40 : s.size ≤ 100 := by omega
              obtain ⟨P, B, hp, hr⟩ := parse_both _ hs40
              cases B <;> simp only [okI_true, okI_false] at hp
              all_goals
                go_wp2_with (first | (go_at_call 9; refine (hp u (hT.below u.2)).mono ?_; rintro e _ ⟨rfl, u, rfl⟩) | (go_at_call 10; refine (hr u).mono ?_; rintro e _ ⟨rfl, u, rfl⟩))
                go_roundw
                case rel => exact ⟨k + 1, by omega, by go_num, u, rfl⟩
                case measure => simp [intOf]; omega
        · go_wp2_with fail
          go_meet
          case rel => exact ⟨u, rfl⟩
    case rest =>
      obtain ⟨u, rfl⟩ := hcut
      go_wp2_with fail
      go_ret
      exact ⟨rfl, u.2⟩
end Go.Proofs.YtpolhepihkbfnaaDoor
