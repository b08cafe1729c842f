/-
  The reference's text of a time (curfewref05), and the number of digits.
-/
import Derived.Test.YtpolhepihkbfnaaDoorRefTimes
import Derived.Test.YtpolhepihkbfnaaDoorParseLaw
namespace Go.Proofs.YtpolhepihkbfnaaDoor
set_option linter.unusedVariables false
set_option linter.unusedSimpArgs false
open Go.RowKit
attribute [local go_sem] Up.new Up.newF

theorem strOfNums_cat (A B : List Int) : strOfNums A ++ strOfNums B = strOfNums (A ++ B) := by apply ba_ext; simp [strOfNums, ByteArray.data_append]
theorem strOfNums_45 (A : List Int) : strOfNums A ++ ⟨#[45]⟩ = strOfNums (A ++ [45]) := strOfNums_cat A [45]
theorem strOfNums_32 (A : List Int) : strOfNums A ++ ⟨#[32]⟩ = strOfNums (A ++ [32]) := strOfNums_cat A [32]
theorem strOfNums_58 (A : List Int) : strOfNums A ++ ⟨#[58]⟩ = strOfNums (A ++ [58]) := strOfNums_cat A [58]

set_option maxRecDepth 100000 in
set_option maxHeartbeats 4000000 in
theorem rtext_any (t : Int) (w : World) (h : mayB t = true) :
    Calls Tryd.prog 8 #[.int .i64 t] w fun e w' => e = .returned (.string (strOfNums (civL (atY (tq t)) (atM (tq t)) (atD (tq t)) (tr t / 3600) (tr t % 3600 / 60) (tr t % 60)))) ∧ Below w.heap.size w w' := by
  have hcall := Calls.toUp (rtat_any t w h)
  obtain ⟨t0, t1⟩ := (mayB_iff t).1 h
  have hr := at_right (tq t) (by unfold tq; omega) (by unfold tq; omega)
  obtain ⟨y0, y1, m0, m1, d0, d1⟩ := date_bd hr.1
  have hh0 : 0 ≤ tr t / 3600 ∧ tr t / 3600 ≤ 99 := by unfold tr; omega
  have mi0 : 0 ≤ tr t % 3600 / 60 ∧ tr t % 3600 / 60 ≤ 99 := by unfold tr; omega
  have ss0 : 0 ≤ tr t % 60 ∧ tr t % 60 ≤ 99 := by unfold tr; omega
  unfold civV at hcall
  clear hr h t0 t1
  generalize atY (tq t) = y at *
  generalize atM (tq t) = m at *
  generalize atD (tq t) = d at *
  generalize tr t / 3600 = hh at *
  generalize tr t % 3600 / 60 = mi at *
  generalize tr t % 60 = ss at *
  have k1 := fun {W : World} (u : Up W) => Calls.up_same (digits4 y u.1 (by omega) (by omega))
  have k2 := fun {W : World} (u : Up W) => Calls.up_same (digits2 m u.1 (by omega) (by omega))
  have k3 := fun {W : World} (u : Up W) => Calls.up_same (digits2 d u.1 (by omega) (by omega))
  have k4 := fun {W : World} (u : Up W) => Calls.up_same (digits2 hh u.1 (by omega) (by omega))
  have k5 := fun {W : World} (u : Up W) => Calls.up_same (digits2 mi u.1 (by omega) (by omega))
  have k6 := fun {W : World} (u : Up W) => Calls.up_same (digits2 ss u.1 (by omega) (by omega))
  have z1 := strOfNums_cat
  have z2 := strOfNums_45
  have z3 := strOfNums_32
  have z4 := strOfNums_58
  have z5 := strOfNums_size
  go_enter Tryd.func8, Tryd.ntmps8
  go_wp2_with ((go_at_call 25; refine hcall.mono ?_; rintro e _ ⟨rfl, u, rfl⟩))
  refine wp_up ?_
  intro v
  refine wp_region_upu (by kernel_rfl) (by kernel_rfl) ?_
  repeat (go_big_quiet_step ((first | with_reducible exact k1 _ | with_reducible exact k2 _ | with_reducible exact k3 _ | with_reducible exact k4 _ | with_reducible exact k5 _ | with_reducible exact k6 _)))
  refine wpQuiet_nil ?_
  rintro _ ⟨v, rfl⟩
  go_wp2_with fail
  go_ret
  exact ⟨rfl, (Up.down v).2⟩

def digB (b : ByteArray) (n : Nat) : Prop := ∀ j, j < n → 48 ≤ bI b j ∧ bI b j ≤ 57

set_option maxRecDepth 100000 in
set_option maxHeartbeats 4000000 in
theorem rvalue_yes (b : ByteArray) (w : World) (hb : b.size ≤ 4) (h : digB b b.size) :
    Calls Tryd.prog 27 #[.string b] w fun e w' => e = .returned (.tuple #[.int .i64 (fzn (bI b) 0 b.size), .bool true]) ∧ w = w' := by
  have H := Lib.hid h
  clear h
  go_enter Tryd.func27, Tryd.ntmps27
  go_wp2_with fail
  go_loop [4, 8] (fun n i => ∃ k : Nat, k ≤ b.size ∧ i = .int .i64 k ∧ n = .int .i64 (fzn (bI b) 0 k)) (fun _ i => b.size - (intOf i).toNat)
  case atStart => exact ⟨0, by omega, rfl, rfl⟩
  case round =>
    obtain ⟨k, hk, rfl, rfl⟩ := hrel
    have hbd := fzn_bd (bI b) 0 k (fun j hj => by rw [Nat.zero_add]; exact H.out j (by omega)) (by omega)
    have hnx : fzn (bI b) 0 (k + 1) = 10 * fzn (bI b) 0 k + (bI b k - 48) := by simp [fzn]
    obtain ⟨v, hv⟩ : ∃ v, v = fzn (bI b) 0 k := ⟨_, rfl⟩
    rw [← hv] at hbd hnx ⊢
    have HV := Lib.hid hv
    have HN := Lib.hid hnx
    clear hv hnx
    by_cases hlt : k < b.size
    · obtain ⟨x, hx⟩ : ∃ x : Nat, (b[k]'hlt).toNat = x := ⟨_, rfl⟩
      have HX : Hid (bI b k = x) := by unfold Hid bI; rw [dif_pos hlt, hx]
      have hd := H.out k hlt
      rw [HX.out] at hd
      go_wp2_with fail
      all_goals
        go_round
        case rel => exact ⟨k + 1, by omega, by go_num, by rw [HN.out, HX.out]⟩
        case measure => simp [intOf]; omega
    · obtain rfl : k = b.size := by omega
      go_wp2_with fail
      go_ret2
      exact ⟨by rw [← HV.out]; rfl, rfl⟩

set_option maxRecDepth 100000 in
set_option maxHeartbeats 4000000 in
theorem rvalue_no (b : ByteArray) (w : World) (hb : b.size ≤ 4) (h : ¬ digB b b.size) :
    Calls Tryd.prog 27 #[.string b] w fun e w' => e = .returned (.tuple #[.int .i64 0, .bool false]) ∧ w = w' := by
  have H := Lib.hid h
  clear h
  go_enter Tryd.func27, Tryd.ntmps27
  go_wp2_with fail
  go_loop [4, 8] (fun n i => ∃ k : Nat, k ≤ b.size ∧ i = .int .i64 k ∧ Hid (digB b k) ∧ n = .int .i64 (fzn (bI b) 0 k)) (fun _ i => b.size - (intOf i).toNat)
  case atStart => exact ⟨0, by omega, rfl, fun j hj => by omega, rfl⟩
  case round =>
    obtain ⟨k, hk, rfl, hd, rfl⟩ := hrel
    have hbd := fzn_bd (bI b) 0 k (fun j hj => by rw [Nat.zero_add]; exact hd.out j (by omega)) (by omega)
    have hnx : fzn (bI b) 0 (k + 1) = 10 * fzn (bI b) 0 k + (bI b k - 48) := by simp [fzn]
    obtain ⟨v, hv⟩ : ∃ v, v = fzn (bI b) 0 k := ⟨_, rfl⟩
    rw [← hv] at hbd hnx ⊢
    have HN := Lib.hid hnx
    clear hv hnx
    by_cases hlt : k < b.size
    · obtain ⟨x, hx⟩ : ∃ x : Nat, (b[k]'hlt).toNat = x := ⟨_, rfl⟩
      have hx9 : x < 256 := by rw [← hx]; exact UInt8.toNat_lt _
      have HX : Hid (bI b k = x) := by unfold Hid bI; rw [dif_pos hlt, hx]
      by_cases hr : 48 ≤ (x : Int) ∧ (x : Int) ≤ 57
      · obtain ⟨h1, h2⟩ := hr
        go_wp2_with fail
        all_goals
          go_round
          case rel => exact ⟨k + 1, by omega, by go_num, fun j hj => by
            rcases Nat.lt_or_ge j k with hl | hg
            · exact hd.out j hl
            · obtain rfl : j = k := by omega
              rw [HX.out]; exact ⟨h1, h2⟩, by rw [HN.out, HX.out]⟩
          case measure => simp [intOf]; omega
      · go_wp2_with fail
        all_goals
          go_ret2
          exact ⟨rfl, rfl⟩
    · obtain rfl : k = b.size := by omega
      exact absurd hd.out H.out
end Go.Proofs.YtpolhepihkbfnaaDoor
