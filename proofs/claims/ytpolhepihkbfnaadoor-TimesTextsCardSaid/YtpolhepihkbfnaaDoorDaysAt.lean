/-
  The calendar (package days): the date of a number.
-/
import Derived.Test.YtpolhepihkbfnaaDoorDays
namespace Go.Proofs.YtpolhepihkbfnaaDoor
set_option linter.unusedVariables false
set_option linter.unusedSimpArgs false
open Go.RowKit
attribute [local go_sem] Up.new Up.newF

/-- The four parts of the calendar: days, years, at most. -/
def pD : Nat → Int | 0 => 146097 | 1 => 36524 | 2 => 1461 | _ => 365
def pY : Nat → Int | 0 => 400 | 1 => 100 | 2 => 4 | _ => 1
def pM : Nat → Int | 0 => 100 | 1 => 3 | 2 => 24 | _ => 3
def pk (n : Int) (k : Nat) : Int := if n / pD k ≤ pM k then n / pD k else pM k
def pN (n : Int) : Nat → Int | 0 => n + 719468 | k + 1 => pN n k - pk (pN n k) k * pD k
def pS (n : Int) : Nat → Int | 0 => 0 | k + 1 => pS n k + pk (pN n k) k * pY k
theorem pk_bd (n : Int) (k : Nat) (h : 0 ≤ n) : 0 ≤ pk n k ∧ pk n k ≤ 100 := by
  unfold pk
  match k with
  | 0 => simp only [pD, pM]; split <;> omega
  | 1 => simp only [pD, pM]; split <;> omega
  | 2 => simp only [pD, pM]; split <;> omega
  | k + 3 => simp only [pD, pM]; split <;> omega

theorem pN_bd (n : Int) (k : Nat) (h0 : 0 ≤ n) : 0 ≤ pN n k ∧ pN n k ≤ n + 719468 := by
  induction k with
  | zero => simp only [pN]; omega
  | succ k ih =>
    simp only [pN]
    have hb := pk_bd (pN n k) k ih.1
    have : pk (pN n k) k * pD k ≤ pN n k ∧ 0 ≤ pk (pN n k) k * pD k := by
      have h1 : pk (pN n k) k ≤ pN n k / pD k := by unfold pk; split <;> omega
      have hD : 0 < pD k := by match k with | 0 => decide | 1 => decide | 2 => decide | k + 3 => simp [pD]
      refine ⟨?_, Int.mul_nonneg hb.1 (by omega)⟩
      have h2 := Int.mul_le_mul_of_nonneg_right h1 (Int.le_of_lt hD)
      have h3 := Int.ediv_mul_le (pN n k) (Int.ne_of_gt hD)
      omega
    omega
theorem pS_bd (n : Int) (k : Nat) (h0 : 0 ≤ n) : 0 ≤ pS n k ∧ pS n k ≤ 40000 * k := by
  induction k with
  | zero => simp [pS]
  | succ k ih =>
    simp only [pS]
    have hb := pk_bd (pN n k) k (pN_bd n k h0).1
    have : 0 ≤ pY k ∧ pY k ≤ 400 := by match k with | 0 => decide | 1 => decide | 2 => decide | k + 3 => simp [pY]
    have h2 : pk (pN n k) k * pY k ≤ 100 * 400 := Int.mul_le_mul hb.2 this.2 this.1 (by omega)
    have h3 := Int.mul_nonneg hb.1 this.1
    omega

theorem pN4 (n : Int) (h0 : 0 ≤ n) (h1 : n ≤ 2932896) : 0 ≤ pN n 4 ∧ pN n 4 ≤ 365 := by
  have a1 : pN n 1 = (n + 719468) % 146097 := by simp only [pN, pk, pD, pM]; split <;> omega
  have a2 : 0 ≤ pN n 1 ∧ pN n 1 ≤ 146096 := by omega
  have b1 : pN n 2 = pN n 1 - pk (pN n 1) 1 * pD 1 := rfl
  have b2 : 0 ≤ pN n 2 ∧ pN n 2 ≤ 36524 := by rw [b1]; simp only [pk, pD, pM]; split <;> omega
  have c1 : pN n 3 = pN n 2 - pk (pN n 2) 2 * pD 2 := rfl
  have c2 : 0 ≤ pN n 3 ∧ pN n 3 ≤ 1460 := by rw [c1]; simp only [pk, pD, pM]; split <;> omega
  have d1 : pN n 4 = pN n 3 - pk (pN n 3) 3 * pD 3 := rfl
  rw [d1]; simp only [pk, pD, pM]; split <;> omega
def atK (n : Int) : Int := (5 * pN n 4 + 2) / 153
def atY (n : Int) : Int := if 12 < atK n + 3 then pS n 4 + 1 else pS n 4
def atM (n : Int) : Int := if 12 < atK n + 3 then atK n + 3 - 12 else atK n + 3
def atD (n : Int) : Int := pN n 4 - (153 * atK n + 2) / 5 + 1

set_option maxRecDepth 100000 in
set_option maxHeartbeats 1000000 in
theorem dat_no (n : Int) (w : World) (h : dayB n = false) :
    Calls Tryd.prog 44 #[.int .i64 n] w fun e w' => e = .returned (.tuple #[dateV 0 0 0, .int .i64 2]) ∧ Below w.heap.size w w' := by
  unfold dateV
  go_enter Tryd.func44, Tryd.ntmps44
  go_wp2_with fail
  go_step3
  go_wp2_with ((go_at_call 64; refine (day_any n _).mono ?_; rintro e _ ⟨rfl, rfl⟩))
  rw [Exit.noGoto_ret]
  refine bodyPost_ret (v := .tuple #[.agg #[.int .i64 0, .int .i64 0, .int .i64 0], .int .i64 2]) (by simp [results, Tryd.results44, go_sem]) rfl ⟨rfl, ?_⟩
  exact (Below.refl _ _).alloc (Nat.le_refl _) _

def partsV : Value := .agg #[.int .i64 146097, .int .i64 400, .int .i64 100, .int .i64 36524, .int .i64 100, .int .i64 3, .int .i64 1461, .int .i64 4, .int .i64 24, .int .i64 365, .int .i64 1, .int .i64 3]
theorem min_two (ats : Array TypeId) (ty : TypeId) (k k' : IntKind) (x y : Int) : Builtin.min_ ats ty #[.int k x, .int k' y] = pure (.int k (if y < x then y else x)) := by
  simp only [Builtin.min_, List.foldlM_cons, List.foldlM_nil, Builtin.min2]; rfl

set_option maxRecDepth 100000 in
set_option maxHeartbeats 1000000 in
theorem dat_yes (n : Int) (w : World) (h : dayB n = true) (h0 : 0 ≤ n) (h1 : n ≤ 2932896) :
    Calls Tryd.prog 44 #[.int .i64 n] w fun e w' => e = .returned (.tuple #[dateV (atY n) (atM n) (atD n), .int .i64 0]) ∧ Below w.heap.size w w' := by
  have i0 : ∀ w, (Instr.index 123 partsV (.int .i64 0)).run Tryd.prog w = .ok (.agg #[.int .i64 146097, .int .i64 400, .int .i64 100]) w := fun _ => by kernel_rfl
  have i1 : ∀ w, (Instr.index 123 partsV (.int .i64 1)).run Tryd.prog w = .ok (.agg #[.int .i64 36524, .int .i64 100, .int .i64 3]) w := fun _ => by kernel_rfl
  have i2 : ∀ w, (Instr.index 123 partsV (.int .i64 2)).run Tryd.prog w = .ok (.agg #[.int .i64 1461, .int .i64 4, .int .i64 24]) w := fun _ => by kernel_rfl
  have i3 : ∀ w, (Instr.index 123 partsV (.int .i64 3)).run Tryd.prog w = .ok (.agg #[.int .i64 365, .int .i64 1, .int .i64 3]) w := fun _ => by kernel_rfl
  unfold partsV at i0 i1 i2 i3
  unfold dateV
  go_enter Tryd.func44, Tryd.ntmps44
  go_wp2_with fail
  go_step3
  go_wp2_with ((go_at_call 64; refine (day_any n _).mono ?_; rintro e _ ⟨rfl, rfl⟩))
  go_loopw [0, 4, 21] (fun n' y i wr => ∃ k : Nat, k ≤ 4 ∧ n' = .int .i64 (pN n k) ∧ y = .int .i64 (pS n k) ∧ i = .int .i64 k ∧ ∃ u : Up (w.alloc (.cells #[.int .i64 0, .int .i64 0, .int .i64 0] 62)), wr = u.1) (fun _ _ i _ => 4 - (intOf i).toNat)
  case atStart => exact ⟨0, by omega, rfl, rfl, rfl, ⟨_, Below.refl _ _⟩, rfl⟩
  case round =>
    obtain ⟨k, hk, rfl, rfl, rfl, u, rfl⟩ := hrel
    obtain ⟨b1, b2⟩ := pN_bd n k h0
    obtain ⟨b3, b4⟩ := pS_bd n k h0
    by_cases h4 : k < 4
    · have hk4 : k = 0 ∨ k = 1 ∨ k = 2 ∨ k = 3 := by omega
      have hpk := pk_bd (pN n k) k b1
      have hqs : pN n (k + 1) = pN n k - pk (pN n k) k * pD k := rfl
      have hys : pS n (k + 1) = pS n k + pk (pN n k) k * pY k := rfl
      generalize pN n k = q at hqs hys hpk b1 b2 ⊢
      generalize pS n k = y at hys b3 b4 ⊢
      have Hq := Lib.hid hqs
      have Hy := Lib.hid hys
      clear hqs hys
      rcases hk4 with rfl | rfl | rfl | rfl
      all_goals
        go_wp2_with fail
        refine wp_up ?_
        intro v
        refine wp_region_upu (by kernel_rfl) (by kernel_rfl) ?_
        repeat (go_big_quiet_step (fail))
        refine wpQuiet_nil ?_
        rintro _ ⟨v, rfl⟩
        go_wp2_with fail
      all_goals
        refine wp_region_upu (by kernel_rfl) (by kernel_rfl) ?_
        repeat (go_big_quiet_step (fail))
        refine wpQuiet_nil ?_
        rintro _ ⟨v, rfl⟩
        go_wp2_with fail
        go_roundw
        case measure => simp [intOf]
        case rel =>
          first
            | refine ⟨1, by omega, congrArg _ ?_, congrArg _ ?_, rfl, Up.down v, rfl⟩
            | refine ⟨2, by omega, congrArg _ ?_, congrArg _ ?_, rfl, Up.down v, rfl⟩
            | refine ⟨3, by omega, congrArg _ ?_, congrArg _ ?_, rfl, Up.down v, rfl⟩
            | refine ⟨4, by omega, congrArg _ ?_, congrArg _ ?_, rfl, Up.down v, rfl⟩
          · rw [Hq.out]; simp only [pk, pD, pM]; split <;> omega
          · rw [Hy.out]; simp only [pk, pD, pM, pY]; split <;> omega
    · obtain rfl : k = 4 := by omega
      rw [show ((4 : Nat) : Int) = 4 from rfl] at *
      have q1 := pN4 n h0 h1
      have hY : atY n = if 12 < atK n + 3 then pS n 4 + 1 else pS n 4 := rfl
      have hM : atM n = if 12 < atK n + 3 then atK n + 3 - 12 else atK n + 3 := rfl
      have hD : atD n = pN n 4 - (153 * atK n + 2) / 5 + 1 := rfl
      have hK : atK n = (5 * pN n 4 + 2) / 153 := rfl
      generalize atK n = rK at hY hM hD hK
      generalize pN n 4 = q at hD hK q1 b1 b2 ⊢
      generalize pS n 4 = y at hY b3 b4 ⊢
      have HY := Lib.hid hY
      have HM := Lib.hid hM
      have HD := Lib.hid hD
      have HK := Lib.hid hK
      clear hY hM hD hK
      clear i0 i1 i2 i3 h4 hk
      have hlt := u.size_lt
      go_wp2_with fail
      go_step3
      go_wp2_with fail
      go_loopw [8] (fun m wr => ∃ k : Int, 0 ≤ k ∧ (153 * k + 2) / 5 ≤ q ∧ m = .int .i64 k ∧ wr = u.1) (fun m _ => 12 - (intOf m).toNat)
      case atStart => exact ⟨0, by omega, by omega, rfl, rfl⟩
      case round =>
        obtain ⟨k, k0, k1, rfl, rfl⟩ := hrel
        by_cases hx : q < (153 * (k + 1) + 2) / 5
        · have e1 : rK = k := by have := HK.out; omega
          by_cases hy : 12 < k + 3
          · have eY : atY n = y + 1 := by rw [HY.out, e1]; split <;> omega
            have eM : atM n = k + 3 - 12 := by rw [HM.out, e1]; split <;> omega
            have eD : atD n = q - (153 * k + 2) / 5 + 1 := by rw [HD.out, e1]
            have HE := Lib.hid (show Ending.returned (.tuple #[.agg #[.int .i64 (y + 1), .int .i64 (k + 3 - 12), .int .i64 (q - (153 * k + 2) / 5 + 1)], .int .i64 0]) = .returned (.tuple #[.agg #[.int .i64 (atY n), .int .i64 (atM n), .int .i64 (atD n)], .int .i64 0]) by rw [eY, eM, eD])
            clear e1 HY HM HD HK eY eM eD
            go_wp2_with ((go_at_call 63; refine (months_any _ _ (by omega) (by omega)).mono ?_; rintro e _ ⟨rfl, rfl⟩))
            rw [Exit.noGoto_ret]
            refine bodyPost_ret (v := .tuple #[.agg #[.int .i64 (y + 1), .int .i64 (k + 3 - 12), .int .i64 (q - (153 * k + 2) / 5 + 1)], .int .i64 0]) (by simp [results, Tryd.results44, go_sem, hlt]) rfl ⟨HE.out, ?_⟩
            exact (((u.box.setCell (Nat.le_refl _) _).setCell (Nat.le_refl _) _).setCell (Nat.le_refl _) _).alloc (by simp; exact Nat.le_of_lt u.size_lt) _
          · have eY : atY n = y := by rw [HY.out, e1]; split <;> omega
            have eM : atM n = k + 3 := by rw [HM.out, e1]; split <;> omega
            have eD : atD n = q - (153 * k + 2) / 5 + 1 := by rw [HD.out, e1]
            have HE := Lib.hid (show Ending.returned (.tuple #[.agg #[.int .i64 y, .int .i64 (k + 3), .int .i64 (q - (153 * k + 2) / 5 + 1)], .int .i64 0]) = .returned (.tuple #[.agg #[.int .i64 (atY n), .int .i64 (atM n), .int .i64 (atD n)], .int .i64 0]) by rw [eY, eM, eD])
            clear e1 HY HM HD HK eY eM eD
            go_wp2_with ((go_at_call 63; refine (months_any _ _ (by omega) (by omega)).mono ?_; rintro e _ ⟨rfl, rfl⟩))
            rw [Exit.noGoto_ret]
            refine bodyPost_ret (v := .tuple #[.agg #[.int .i64 y, .int .i64 (k + 3), .int .i64 (q - (153 * k + 2) / 5 + 1)], .int .i64 0]) (by simp [results, Tryd.results44, go_sem, hlt]) rfl ⟨HE.out, ?_⟩
            exact (((u.box.setCell (Nat.le_refl _) _).setCell (Nat.le_refl _) _).setCell (Nat.le_refl _) _).alloc (by simp; exact Nat.le_of_lt u.size_lt) _
        · go_wp2_with ((go_at_call 63; refine (months_any _ _ (by omega) (by omega)).mono ?_; rintro e _ ⟨rfl, rfl⟩))
          go_roundw
          case rel => exact ⟨k + 1, by omega, by omega, rfl, trivial⟩
          case measure => simp [intOf]; omega
end Go.Proofs.YtpolhepihkbfnaaDoor
