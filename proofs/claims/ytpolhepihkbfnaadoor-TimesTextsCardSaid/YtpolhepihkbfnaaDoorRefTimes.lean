/-
  The reference's times (curfewref05): it answers as the code's does.
-/
import Derived.Test.YtpolhepihkbfnaaDoorTimesText
namespace Go.Proofs.YtpolhepihkbfnaaDoor
set_option linter.unusedVariables false
set_option linter.unusedSimpArgs false
open Go.RowKit
attribute [local go_sem] Up.new Up.newF

set_option maxHeartbeats 400000 in
theorem rtime_any (t : Int) (w : World) :
    Calls Tryd.prog 7 #[.int .i64 t] w fun e w' => e = .returned (.bool (mayB t)) ∧ w = w' := by
  go_enter Tryd.func7, Tryd.ntmps7
  go_wp2
  all_goals
    go_ret
    refine ⟨ret_bool (Bool.eq_iff_iff.2 ?_), rfl⟩
    simp only [mayB_iff, decide_eq_true_eq, Bool.false_eq_true, false_iff]
    omega

set_option maxRecDepth 100000 in
set_option maxHeartbeats 2000000 in
theorem rtat_any (t : Int) (w : World) (h : mayB t = true) :
    Calls Tryd.prog 25 #[.int .i64 t] w fun e w' => e = .returned (civV (atY (tq t)) (atM (tq t)) (atD (tq t)) (tr t / 3600) (tr t % 3600 / 60) (tr t % 60)) ∧ Below w.heap.size w w' := by
  obtain ⟨t0, t1⟩ := (mayB_iff t).1 h
  have hc2 := fun W => Calls.toUp (rat_any (t / 3600 / 24) W (by omega) (by omega))
  have HE : Hid (Ending.returned (.agg #[.int .i64 (atY (t / 3600 / 24)), .int .i64 (atM (t / 3600 / 24)), .int .i64 (atD (t / 3600 / 24)), .int .i64 (t / 3600 % 24), .int .i64 (t / 60 % 60), .int .i64 (t % 60)]) = Ending.returned (civV (atY (tq t)) (atM (tq t)) (atD (tq t)) (tr t / 3600) (tr t % 3600 / 60) (tr t % 60))) := by
    have e1 : t / 3600 / 24 = tq t := by unfold tq; omega
    have e2 : t / 3600 % 24 = tr t / 3600 := by unfold tr; omega
    have e3 : t / 60 % 60 = tr t % 3600 / 60 := by unfold tr; omega
    have e4 : t % 60 = tr t % 60 := by unfold tr; omega
    unfold Hid; rw [e1, e2, e3, e4]; rfl
  unfold dateV at hc2
  go_enter Tryd.func25, Tryd.ntmps25
  go_wp2_with ((go_at_call 46; refine (hc2 _).mono ?_; rintro e _ ⟨rfl, u, rfl⟩; have hlt := u.size_lt))
  refine bodyPost_ret (v := .agg #[.int .i64 (atY (t / 3600 / 24)), .int .i64 (atM (t / 3600 / 24)), .int .i64 (atD (t / 3600 / 24)), .int .i64 (t / 3600 % 24), .int .i64 (t / 60 % 60), .int .i64 (t % 60)]) (by simp [results, Tryd.results25, go_sem]) rfl ⟨HE.out, ?_⟩
  exact (((((u.box.setCell (Nat.le_refl _) _).setCell (Nat.le_refl _) _).setCell (Nat.le_refl _) _).setCell (Nat.le_refl _) _).setCell (Nat.le_refl _) _).setCell (Nat.le_refl _) _

set_option maxHeartbeats 2000000 in
theorem rtright_any (y m d hh mi ss : Int) (w : World) :
    Calls Tryd.prog 28 #[civV y m d hh mi ss] w fun e w' => e = .returned (.bool (civB y m d hh mi ss)) ∧ Below w.heap.size w w' := by
  have hcall : ∀ W : World, Calls Tryd.prog 47 #[.agg #[.int .i64 y, .int .i64 m, .int .i64 d]] W fun e w' => e = .returned (.bool (dateB y m d)) ∧ ∃ u : Up W, w' = u.1 := fun W => Calls.toUp (rright_any y m d W)
  have hci : civB y m d hh mi ss = true ↔ (dateB y m d = true ∧ 0 ≤ hh ∧ hh < 24 ∧ 0 ≤ mi ∧ mi < 60 ∧ 0 ≤ ss ∧ ss < 60) := by
    unfold civB; rw [Bool.and_eq_true, hmsB_iff]
  generalize civB y m d hh mi ss = R at hci ⊢
  have HC := Lib.hid hci
  clear hci
  unfold civV
  cases hd : dateB y m d
  all_goals
    rw [hd] at hcall
    have HD := Lib.hid hd
    clear hd
    go_enter Tryd.func28, Tryd.ntmps28
    go_wp2_with ((go_at_call 47; refine (hcall _).mono ?_; rintro e _ ⟨rfl, u, rfl⟩))
  all_goals
    go_ret
    refine ⟨ret_bool (Bool.eq_iff_iff.2 ?_), u.box⟩
    rw [HC.out, HD.out]
    simp only [decide_eq_true_eq, Bool.false_eq_true, false_iff, true_and, false_and, not_false_eq_true]
    try omega

set_option maxHeartbeats 2000000 in
theorem rtof_any (y m d hh mi ss : Int) (w : World) (h : civB y m d hh mi ss = true) :
    Calls Tryd.prog 29 #[civV y m d hh mi ss] w fun e w' => e = .returned (.int .i64 (tofI y m d hh mi ss)) ∧ Below w.heap.size w w' := by
  unfold civB at h
  simp only [Bool.and_eq_true] at h
  obtain ⟨hd, hx⟩ := h
  obtain ⟨h0, h1, h2, h3, h4, h5⟩ := (hmsB_iff _ _ _).1 hx
  have hr := ofI_range hd
  have hof := fun {W : World} (u : Up W) => Calls.up_of (rof_any y m d u.1 hd)
  have HE : Hid (tofI y m d hh mi ss = ofI y m d * 86400 + hh * 3600 + mi * 60 + ss) := rfl
  generalize tofI y m d hh mi ss = R at HE ⊢
  generalize ofI y m d = F at *
  unfold dateV at hof
  clear hd hx
  unfold civV
  go_enter Tryd.func29, Tryd.ntmps29
  go_wp2_with fail
  refine wp_up ?_
  intro u
  refine wp_region_upu (by kernel_rfl) (by kernel_rfl) ?_
  repeat (go_big_quiet_step ((go_at_call 48; exact hof _)))
  refine wpQuiet_nil ?_
  rintro _ ⟨u, rfl⟩
  go_wp2_with fail
  go_ret
  exact ⟨ret_int (by rw [HE.out]; omega), u.box⟩

theorem dig10 {x : Int} (h0 : 0 ≤ x) (h1 : x ≤ 9) : x = 0 ∨ x = 1 ∨ x = 2 ∨ x = 3 ∨ x = 4 ∨ x = 5 ∨ x = 6 ∨ x = 7 ∨ x = 8 ∨ x = 9 := by omega
theorem ba_ext {a b : ByteArray} (h : a.data.toList = b.data.toList) : a = b := by
  cases a with | mk a => cases b with | mk b => exact congrArg ByteArray.mk (Array.toList_inj.1 h)
theorem dig_cat (x : Int) (h0 : 0 ≤ x) (h1 : x ≤ 9) (L : List Int) : (⟨#[48, 49, 50, 51, 52, 53, 54, 55, 56, 57]⟩ : ByteArray).extract x.toNat (x + 1).toNat ++ strOfNums L = strOfNums ((48 + x) :: L) := by
  apply ba_ext
  rcases dig10 h0 h1 with rfl | rfl | rfl | rfl | rfl | rfl | rfl | rfl | rfl | rfl <;> simp [ByteArray.data_append, strOfNums] <;> rfl
theorem strOfNums_nil : strOfNums [] = ⟨#[]⟩ := rfl

set_option maxHeartbeats 4000000 in
theorem digits4 (q : Int) (w : World) (q0 : 0 ≤ q) (q1 : q ≤ 9999) :
    Calls Tryd.prog 26 #[.int .i64 q, .int .i64 4] w fun e w' => e = .returned (.string (strOfNums [48 + q / 1000 % 10, 48 + q / 100 % 10, 48 + q / 10 % 10, 48 + q % 10])) ∧ w = w' := by
  go_enter Tryd.func26, Tryd.ntmps26
  go_wp2_with fail
  go_loop [0, 5, 7] (fun n o i => ∃ (v : Int) (L : List Int), n = .int .i64 v ∧ o = .string (strOfNums L) ∧ 0 ≤ v ∧ v ≤ 9999 ∧ L.length ≤ 4 ∧ ((i = .int .i64 0 ∧ Hid (v = q ∧ L = [])) ∨ (i = .int .i64 1 ∧ Hid (v = q / 10 ∧ L = [48 + q % 10])) ∨ (i = .int .i64 2 ∧ Hid (v = q / 100 ∧ L = [48 + q / 10 % 10, 48 + q % 10])) ∨ (i = .int .i64 3 ∧ Hid (v = q / 1000 ∧ L = [48 + q / 100 % 10, 48 + q / 10 % 10, 48 + q % 10])) ∨ (i = .int .i64 4 ∧ Hid (L = [48 + q / 1000 % 10, 48 + q / 100 % 10, 48 + q / 10 % 10, 48 + q % 10])))) (fun _ _ i => (4 - intOf i).toNat)
  case atStart => exact ⟨q, [], rfl, rfl, q0, by omega, by simp, .inl ⟨rfl, rfl, rfl⟩⟩
  case round =>
    obtain ⟨v, L, rfl, rfl, v0, v1, hl, hx⟩ := hrel
    have hcat := Lib.hid (dig_cat (v % 10) (by omega) (by omega) L)
    have hsz := strOfNums_size L
    have hb1 : (v % 10).toNat ≤ (v % 10 + 1).toNat := by omega
    rcases hx with ⟨rfl, hx⟩ | ⟨rfl, hx⟩ | ⟨rfl, hx⟩ | ⟨rfl, hx⟩ | ⟨rfl, hx⟩
    · go_wp2_with fail
      go_roundw
      case measure => simp [intOf]
      case rel =>
        obtain ⟨hx1, hx2⟩ := hx.out
        exact ⟨v / 10, (48 + v % 10) :: L, rfl, by rw [hcat.out], by omega, by omega, by rw [hx2]; simp, .inr (.inl ⟨rfl, ⟨by omega, by rw [hx2]; simp; omega⟩⟩)⟩
    · go_wp2_with fail
      go_roundw
      case measure => simp [intOf]
      case rel =>
        obtain ⟨hx1, hx2⟩ := hx.out
        exact ⟨v / 10, (48 + v % 10) :: L, rfl, by rw [hcat.out], by omega, by omega, by rw [hx2]; simp, .inr (.inr (.inl ⟨rfl, ⟨by omega, by rw [hx2]; simp; omega⟩⟩))⟩
    · go_wp2_with fail
      go_roundw
      case measure => simp [intOf]
      case rel =>
        obtain ⟨hx1, hx2⟩ := hx.out
        exact ⟨v / 10, (48 + v % 10) :: L, rfl, by rw [hcat.out], by omega, by omega, by rw [hx2]; simp, .inr (.inr (.inr (.inl ⟨rfl, ⟨by omega, by rw [hx2]; simp; omega⟩⟩)))⟩
    · go_wp2_with fail
      go_roundw
      case measure => simp [intOf]
      case rel =>
        obtain ⟨hx1, hx2⟩ := hx.out
        exact ⟨v / 10, (48 + v % 10) :: L, rfl, by rw [hcat.out], by omega, by omega, by rw [hx2]; simp, .inr (.inr (.inr (.inr (⟨rfl, (show _ = _ by rw [hx2]; simp; omega)⟩))))⟩
    · go_wp2_with fail
      go_ret
      exact ⟨by rw [← hx.out]; rfl, rfl⟩

set_option maxHeartbeats 4000000 in
theorem digits2 (q : Int) (w : World) (q0 : 0 ≤ q) (q1 : q ≤ 99) :
    Calls Tryd.prog 26 #[.int .i64 q, .int .i64 2] w fun e w' => e = .returned (.string (strOfNums [48 + q / 10 % 10, 48 + q % 10])) ∧ w = w' := by
  go_enter Tryd.func26, Tryd.ntmps26
  go_wp2_with fail
  go_loop [0, 5, 7] (fun n o i => ∃ (v : Int) (L : List Int), n = .int .i64 v ∧ o = .string (strOfNums L) ∧ 0 ≤ v ∧ v ≤ 9999 ∧ L.length ≤ 4 ∧ ((i = .int .i64 0 ∧ Hid (v = q ∧ L = [])) ∨ (i = .int .i64 1 ∧ Hid (v = q / 10 ∧ L = [48 + q % 10])) ∨ (i = .int .i64 2 ∧ Hid (L = [48 + q / 10 % 10, 48 + q % 10])))) (fun _ _ i => (2 - intOf i).toNat)
  case atStart => exact ⟨q, [], rfl, rfl, q0, by omega, by simp, .inl ⟨rfl, rfl, rfl⟩⟩
  case round =>
    obtain ⟨v, L, rfl, rfl, v0, v1, hl, hx⟩ := hrel
    have hcat := Lib.hid (dig_cat (v % 10) (by omega) (by omega) L)
    have hsz := strOfNums_size L
    have hb1 : (v % 10).toNat ≤ (v % 10 + 1).toNat := by omega
    rcases hx with ⟨rfl, hx⟩ | ⟨rfl, hx⟩ | ⟨rfl, hx⟩
    · go_wp2_with fail
      go_roundw
      case measure => simp [intOf]
      case rel =>
        obtain ⟨hx1, hx2⟩ := hx.out
        exact ⟨v / 10, (48 + v % 10) :: L, rfl, by rw [hcat.out], by omega, by omega, by rw [hx2]; simp, .inr (.inl ⟨rfl, ⟨by omega, by rw [hx2]; simp; omega⟩⟩)⟩
    · go_wp2_with fail
      go_roundw
      case measure => simp [intOf]
      case rel =>
        obtain ⟨hx1, hx2⟩ := hx.out
        exact ⟨v / 10, (48 + v % 10) :: L, rfl, by rw [hcat.out], by omega, by omega, by rw [hx2]; simp, .inr (.inr (⟨rfl, (show _ = _ by rw [hx2]; simp; omega)⟩))⟩
    · go_wp2_with fail
      go_ret
      exact ⟨by rw [← hx.out]; rfl, rfl⟩

end Go.Proofs.YtpolhepihkbfnaaDoor
