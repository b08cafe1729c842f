/-
  The reference's calendar (curfewref04): it answers as the code's does.
-/
import Derived.Test.YtpolhepihkbfnaaDoorCal
namespace Go.Proofs.YtpolhepihkbfnaaDoor
set_option linter.unusedVariables false
set_option linter.unusedSimpArgs false
open Go.RowKit
attribute [local go_sem] Up.new Up.newF

theorem ofI_range {y m d : Int} (h : dateB y m d = true) : 0 ≤ ofI y m d ∧ ofI y m d ≤ 2932896 := by
  obtain ⟨a1, a2, a3, a4, a5, a6⟩ := date_bd h
  have c1 := ((dateB_iff _ _ _).1 h).2.2.2
  rw [ofI_day y m d]
  have l1 := ofI_lo (y := y) (by omega) a3 a4
  have h1 := ofI_mono (a := 1970) (b := y) (by omega) (by omega)
  have h2 := ofI_mono (a := y + 1) (b := 10000) (by omega) (by omega)
  have h3 : ofI 1970 1 1 = 0 := by decide
  have h4 : ofI 10000 1 1 = 2932897 := by decide
  omega

theorem t400 {y : Int} (h : ¬ y.tmod 4 = 0) : ¬ y.tmod 400 = 0 := fun hx =>
  h (Int.tmod_eq_zero_of_dvd (Int.dvd_trans (by decide) (Int.dvd_of_tmod_eq_zero hx)))

set_option maxHeartbeats 400000 in
theorem rleap_any (y : Int) (w : World) :
    Calls Tryd.prog 72 #[.int .i64 y] w fun e w' => e = .returned (.bool (leapB y)) ∧ w = w' := by
  go_enter Tryd.func72, Tryd.ntmps72
  go_wp2
  all_goals
    go_ret
    refine ⟨ret_bool ?_, rfl⟩
    first
      | (simp [leapB, *]; done)
      | (have h5 : ¬ y.tmod 4 = 0 := by assumption
         rw [leapB, beq_eq_false_iff_ne.2 (t400 h5), beq_eq_false_iff_ne.2 h5]; rfl)

set_option maxHeartbeats 400000 in
theorem ryear_any (y : Int) (w : World) :
    Calls Tryd.prog 65 #[.int .i64 y] w fun e w' => e = .returned (.int .i64 (365 + lp y)) ∧ w = w' := by
  cases h : leapB y
  all_goals
    have hc : ∀ W, Calls Tryd.prog 72 #[.int .i64 y] W fun e w' => e = .returned (.bool (leapB y)) ∧ W = w' := fun W => rleap_any y W
    rw [h] at hc
    go_enter Tryd.func65, Tryd.ntmps65
    go_wp2_with ((go_at_call 72; refine (hc _).mono ?_; rintro e _ ⟨rfl, rfl⟩))
    go_ret
    exact ⟨ret_int (by simp [lp, h]), rfl⟩

def lensV : Value := .agg #[.int .i64 31, .int .i64 28, .int .i64 31, .int .i64 30, .int .i64 31, .int .i64 30, .int .i64 31, .int .i64 31, .int .i64 30, .int .i64 31, .int .i64 30, .int .i64 31]
theorem lens_at (w : World) : ∀ m : Int, 1 ≤ m → m ≤ 12 → (Instr.index 138 lensV (.int .i64 (m - 1))).run Tryd.prog w = .ok (.int .i64 (longT.getD m.toNat 0)) w := by
  intro m h1 h2
  rcases months12 h1 h2 with rfl | rfl | rfl | rfl | rfl | rfl | rfl | rfl | rfl | rfl | rfl | rfl <;> kernel_rfl

set_option maxHeartbeats 400000 in
theorem rlong_any (y m : Int) (w : World) :
    Calls Tryd.prog 66 #[.int .i64 y, .int .i64 m] w fun e w' => e = .returned (.int .i64 (longI y m)) ∧ w = w' := by
  by_cases h1 : m < 1
  · go_enter Tryd.func66, Tryd.ntmps66
    go_wp2_with fail
    go_ret
    exact ⟨ret_int (by simp [longI, h1]), rfl⟩
  by_cases h2 : 12 < m
  · go_enter Tryd.func66, Tryd.ntmps66
    go_wp2_with fail
    go_ret
    exact ⟨ret_int (by unfold longI; rw [if_pos (by omega)]), rfl⟩
  have hi := fun W => lens_at W m (by omega) (by omega)
  unfold lensV at hi
  by_cases h3 : m = 2
  · subst h3
    clear h1 h2 hi
    have hi : ∀ W, (Instr.index 138 lensV (.int .i64 1)).run Tryd.prog W = .ok (.int .i64 28) W := fun _ => by kernel_rfl
    unfold lensV at hi
    have hv := Lib.hid (longI_vals y).2.1
    cases hl : leapB y
    all_goals
      have hc : ∀ W, Calls Tryd.prog 72 #[.int .i64 y] W fun e w' => e = .returned (.bool (leapB y)) ∧ W = w' := fun W => rleap_any y W
      rw [hl] at hc
      go_enter Tryd.func66, Tryd.ntmps66
      go_wp2_with ((go_at_call 72; refine (hc _).mono ?_; rintro e _ ⟨rfl, rfl⟩))
      go_ret
      exact ⟨ret_int (by rw [hv.out]; simp [lp, hl]), rfl⟩
  · have h4 : (m == 2) = false := by simpa using h3
    have h5 := Lib.hid h3
    clear h3
    go_enter Tryd.func66, Tryd.ntmps66
    go_wp2_with fail
    go_ret
    exact ⟨ret_int (by unfold longI; rw [if_neg (by omega), if_neg (by simp [h5.out])]; simp), rfl⟩

set_option maxRecDepth 100000 in
set_option maxHeartbeats 1000000 in
theorem rat_any (n : Int) (w : World) (h0 : 0 ≤ n) (h1 : n ≤ 2932896) :
    Calls Tryd.prog 46 #[.int .i64 n] w fun e w' => e = .returned (dateV (atY n) (atM n) (atD n)) ∧ Below w.heap.size w w' := by
  go_enter Tryd.func46, Tryd.ntmps46
  go_wp2_with fail
  go_loopw [0] (fun r wr => ∃ y q : Int, 1970 ≤ y ∧ 0 ≤ q ∧ q ≤ n ∧ q = n - ofI y 1 1 ∧ r = .int .i64 q ∧ wr = (w.alloc (.cells #[.int .i64 0, .int .i64 0, .int .i64 0] 62)).alloc (.cells #[.int .i64 y, .int .i64 1, .int .i64 0] 62)) (fun r _ => (intOf r).toNat)
  case atStart => exact ⟨1970, n, by omega, h0, by omega, by rw [ofI_1970]; omega, rfl, rfl⟩
  case round =>
    obtain ⟨y, q, y0, q0, q9, hq, rfl, rfl⟩ := hrel
    have hl := lp_bd y
    have hy9 : y ≤ 9999 := by
      have := ofI_mono (a := 10000) (b := y) (by omega)
      have h4 : ofI 10000 1 1 = 2932897 := by decide
      omega
    have hyr := ofI_year (y := y) (by omega)
    generalize hL : lp y = L at hl hyr
    have HL := Lib.hid hL
    have HQ := Lib.hid hq
    have HY := Lib.hid hyr
    clear hL hq hyr
    have hc : ∀ W, Calls Tryd.prog 65 #[.int .i64 y] W fun e w' => e = .returned (.int .i64 (365 + L)) ∧ W = w' := fun W => by rw [← HL.out]; exact ryear_any y W
    by_cases hx : 365 + L ≤ q
    · go_wp2_with ((go_at_call 65; refine (hc _).mono ?_; rintro e _ ⟨rfl, rfl⟩))
      go_roundw
      case rel => exact ⟨y + 1, q - (365 + L), by omega, by omega, by omega, by have := HY.out; have := HQ.out; omega, rfl, rfl⟩
      case measure => simp [intOf]; omega
    · go_wp2_with ((go_at_call 65; refine (hc _).mono ?_; rintro e _ ⟨rfl, rfl⟩))
      go_loopw [0] (fun r wr => ∃ m p : Int, 1 ≤ m ∧ m ≤ 12 ∧ 0 ≤ p ∧ p ≤ n ∧ p = n - ofI y m 1 ∧ r = .int .i64 p ∧ wr = (w.alloc (.cells #[.int .i64 0, .int .i64 0, .int .i64 0] 62)).alloc (.cells #[.int .i64 y, .int .i64 m, .int .i64 0] 62)) (fun r _ => (intOf r).toNat)
      case atStart => exact ⟨1, q, by omega, by omega, q0, q9, HQ.out, rfl, rfl⟩
      case round =>
        obtain ⟨m, p, m0, m1, p0, p9, hp, rfl, rfl⟩ := hrel
        have hl := longI_bd y m
        have hlm : longI y m ≤ p → m ≤ 11 := by
          intro hle
          have e1 := HL.out; have e2 := HQ.out; have e3 := HY.out
          by_cases hm : m = 12
          · subst hm
            have := ofI_dec (y := y) (by omega)
            have h12 := (longI_vals y).2.2.2.2.2.2.2.2.2.2.2
            omega
          · omega
        have hnx : longI y m ≤ p → ofI y (m + 1) 1 = ofI y m 1 + longI y m := fun hle => ofI_month (by omega) m0 (hlm hle)
        have hpos : 1 ≤ longI y m := by
          have hv := longI_vals y
          have := lp_bd y
          rcases months12 m0 m1 with rfl | rfl | rfl | rfl | rfl | rfl | rfl | rfl | rfl | rfl | rfl | rfl <;> omega
        have hc2 := fun W => rlong_any y m W
        have hfin : ¬ longI y m ≤ p → atY n = y ∧ atM n = m ∧ atD n = p + 1 := by
          intro hle
          have ha := at_right n h0 h1
          have hd : dateB y m (p + 1) = true := (dateB_iff _ _ _).2 ⟨by omega, by omega, by omega, by omega⟩
          refine date_one ha.1 hd ?_
          rw [ha.2, ofI_day, hp]; omega
        generalize longI y m = G at *
        have HP := Lib.hid hp
        have HN := Lib.hid hnx
        have HF := Lib.hid hfin
        clear hp hnx hfin
        by_cases hx2 : G ≤ p
        · have hm11 := hlm hx2
          clear hlm
          go_wp2_with ((go_at_call 66; refine (hc2 _).mono ?_; rintro e _ ⟨rfl, rfl⟩))
          go_roundw
          case rel => exact ⟨m + 1, p - G, by omega, by omega, by omega, by omega, by have := HP.out; have := HN.out hx2; omega, rfl, rfl⟩
          case measure => simp [intOf]; omega
        · clear hlm
          go_wp2_with ((go_at_call 66; refine (hc2 _).mono ?_; rintro e _ ⟨rfl, rfl⟩))
          obtain ⟨f1, f2, f3⟩ := HF.out (by omega)
          refine bodyPost_ret (v := .agg #[.int .i64 y, .int .i64 m, .int .i64 (p + 1)]) (by simp [results, Tryd.results46, go_sem]) rfl ⟨by rw [f1, f2, f3]; rfl, ?_⟩
          exact ((Below.refl _ _).alloc (Nat.le_refl _) _).alloc (by simp) _

set_option maxHeartbeats 1000000 in
theorem rright_any (y m d : Int) (w : World) :
    Calls Tryd.prog 47 #[dateV y m d] w fun e w' => e = .returned (.bool (dateB y m d)) ∧ Below w.heap.size w w' := by
  unfold dateV
  go_enter Tryd.func47, Tryd.ntmps47
  go_wp2_with fail
  refine wp_up ?_
  intro u
  refine wp_region_upu (by kernel_rfl) (by kernel_rfl) ?_
  repeat (any_goals (first | go_big_quiet_step (exact Calls.up_same (rlong_any _ _ _)) | quiet_step (exact Calls.up_same (rlong_any _ _ _)) | (refine wpQuiet_step (fun K hK => ?_); go_simp; split <;> (refine hK _ ?_; clear hK K))))
  all_goals (refine wpQuiet_nil ?_; rintro _ ⟨u, rfl⟩)
  all_goals
    go_wp2
    go_ret
    refine ⟨ret_bool (Bool.eq_iff_iff.2 ?_), u.box⟩
    simp only [dateB_iff, decide_eq_true_eq, Bool.false_eq_true, false_iff]
    omega

set_option maxHeartbeats 1000000 in
theorem rof_any (y m d : Int) (w : World) (hd : dateB y m d = true) :
    Calls Tryd.prog 48 #[dateV y m d] w fun e w' => e = .returned (.int .i64 (ofI y m d)) ∧ Below w.heap.size w w' := by
  obtain ⟨y1, y2, m1, m2, d1, d2⟩ := date_bd hd
  have hrg := ofI_range hd
  have hday := ofI_day y m d
  generalize ofI y m d = R at hrg hday ⊢
  have HR := Lib.hid hday
  clear hday hd
  unfold dateV
  go_enter Tryd.func48, Tryd.ntmps48
  go_wp2_with fail
  go_loopw [3, 4] (fun r yy wr => ∃ y' q : Int, 1970 ≤ y' ∧ y' ≤ y ∧ q = ofI y' 1 1 + d - 1 ∧ 0 ≤ q ∧ q ≤ 4000000 ∧ r = .int .i64 q ∧ yy = .int .i64 y' ∧ wr = w.alloc (.cells #[.int .i64 y, .int .i64 m, .int .i64 d] 62)) (fun _ yy _ => (y - intOf yy).toNat)
  case atStart => exact ⟨1970, d - 1, by omega, by omega, by rw [ofI_1970]; omega, by omega, by omega, rfl, rfl, rfl⟩
  case round =>
    obtain ⟨y', q, a1, a2, hq, q0, q1, rfl, rfl, rfl⟩ := hrel
    have hl := lp_bd y'
    have hyr := ofI_year (y := y') (by omega)
    have hmo := ofI_mono (a := y' + 1) (b := 10000)  (by omega)
    have h4 : ofI 10000 1 1 = 2932897 := by decide
    have hc := fun W => ryear_any y' W
    generalize lp y' = L at hl hyr hc
    have HQ := Lib.hid hq
    have HY := Lib.hid hyr
    have HM := Lib.hid hmo
    have H4 := Lib.hid h4
    clear hq hyr hmo h4
    by_cases hx : y' < y
    · go_wp2_with ((go_at_call 65; refine (hc _).mono ?_; rintro e _ ⟨rfl, rfl⟩))
      go_roundw
      case rel => exact ⟨y' + 1, q + (365 + L), by omega, by omega, by have := HY.out; have := HQ.out; omega, by omega, by have := HY.out; have := HQ.out; have := HM.out (by omega); have := H4.out; omega, rfl, rfl, trivial⟩
      case measure => simp [intOf]; omega
    · have HE := Lib.hid (show y' = y by omega)
      go_wp2_with fail
      go_loopw [3, 5] (fun r mm wr => ∃ m' q : Int, 1 ≤ m' ∧ m' ≤ m ∧ q = ofI y m' 1 + d - 1 ∧ 0 ≤ q ∧ q ≤ 4000400 ∧ r = .int .i64 q ∧ mm = .int .i64 m' ∧ wr = w.alloc (.cells #[.int .i64 y, .int .i64 m, .int .i64 d] 62)) (fun _ mm _ => (m - intOf mm).toNat)
      case atStart => exact ⟨1, q, by omega, by omega, by rw [← HE.out]; exact HQ.out, by omega, by omega, rfl, rfl, rfl⟩
      case round =>
        obtain ⟨m', q, b1, b2, hq, q0, q1, rfl, rfl, rfl⟩ := hrel
        have hl := longI_bd y m'
        have hc2 := fun W => rlong_any y m' W
        have hnx : m' < m → ofI y (m' + 1) 1 = ofI y m' 1 + longI y m' := fun h => ofI_month (by omega) b1 (by omega)
        have hup : m' < m → ofI y m' 1 + longI y m' ≤ 2932897 := fun h => by
          have := (ofI_lo (y := y) (m := m') (by omega) b1 (by omega)).2
          have := ofI_mono (a := y + 1) (b := 10000)  (by omega) (by omega)
          have h4 : ofI 10000 1 1 = 2932897 := by decide
          omega
        generalize longI y m' = G at *
        have HQ := Lib.hid hq
        have HN := Lib.hid hnx
        have HU := Lib.hid hup
        clear hq hnx hup
        by_cases hx2 : m' < m
        · go_wp2_with ((go_at_call 66; refine (hc2 _).mono ?_; rintro e _ ⟨rfl, rfl⟩))
          go_roundw
          case rel => exact ⟨m' + 1, q + G, by omega, by omega, by have := HN.out hx2; have := HQ.out; omega, by omega, by have := HU.out hx2; have := HQ.out; omega, rfl, rfl, trivial⟩
          case measure => simp [intOf]; omega
        · obtain rfl : m' = m := by omega
          go_wp2_with fail
          go_ret
          exact ⟨ret_int (by have := HR.out; have := HQ.out; omega), (Below.refl _ _).alloc (Nat.le_refl _) _⟩
end Go.Proofs.YtpolhepihkbfnaaDoor
