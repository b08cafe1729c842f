/-
  The calendar's plain law: a date's number, and the date of a number, lead back to one another; no program in sight.
-/
import Derived.Test.YtpolhepihkbfnaaDoorDaysAt
namespace Go.Proofs.YtpolhepihkbfnaaDoor
set_option linter.unusedVariables false
set_option linter.unusedSimpArgs false
open Go.RowKit

theorem leapB_iff {y : Int} (h : 0 ≤ y) : leapB y = true ↔ (y % 4 = 0 ∧ (y % 100 ≠ 0 ∨ y % 400 = 0)) := by
  unfold leapB
  rw [Int.tmod_eq_emod_of_nonneg h, Int.tmod_eq_emod_of_nonneg h, Int.tmod_eq_emod_of_nonneg h]
  simp
/-- 1 in a leap year, else 0. -/
def lp (y : Int) : Int := if leapB y = true then 1 else 0
theorem lp_bd (y : Int) : 0 ≤ lp y ∧ lp y ≤ 1 := by unfold lp; split <;> omega
theorem lp_spec {y : Int} (h : 0 ≤ y) : (lp y = 1 ∧ y % 4 = 0 ∧ (y % 100 ≠ 0 ∨ y % 400 = 0)) ∨ (lp y = 0 ∧ ¬ (y % 4 = 0 ∧ (y % 100 ≠ 0 ∨ y % 400 = 0))) := by
  unfold lp
  by_cases hl : leapB y = true
  · rw [if_pos hl]; exact .inl ⟨rfl, (leapB_iff h).1 hl⟩
  · rw [if_neg hl]; exact .inr ⟨rfl, fun hx => hl ((leapB_iff h).2 hx)⟩
theorem longI_eq (y m : Int) : longI y m = if m < 1 ∨ 13 ≤ m then 0 else longT.getD m.toNat 0 + (if m = 2 then lp y else 0) := by
  unfold longI lp
  by_cases h : m < 1 ∨ 13 ≤ m
  · rw [if_pos h, if_pos h]
  · rw [if_neg h, if_neg h]
    by_cases h2 : m = 2 <;> by_cases h3 : leapB y = true <;> simp [h2, h3]
theorem months12 {m : Int} (h0 : 1 ≤ m) (h1 : m ≤ 12) : m = 1 ∨ m = 2 ∨ m = 3 ∨ m = 4 ∨ m = 5 ∨ m = 6 ∨ m = 7 ∨ m = 8 ∨ m = 9 ∨ m = 10 ∨ m = 11 ∨ m = 12 := by omega
/-- The lengths, written out. -/
theorem longI_vals (y : Int) : longI y 1 = 31 ∧ longI y 2 = 28 + lp y ∧ longI y 3 = 31 ∧ longI y 4 = 30 ∧ longI y 5 = 31 ∧ longI y 6 = 30 ∧ longI y 7 = 31 ∧ longI y 8 = 31 ∧ longI y 9 = 30 ∧ longI y 10 = 31 ∧ longI y 11 = 30 ∧ longI y 12 = 31 := by
  refine ⟨?_, ?_, ?_, ?_, ?_, ?_, ?_, ?_, ?_, ?_, ?_, ?_⟩ <;> rw [longI_eq] <;> simp [longT]

theorem ofI_day (y m d : Int) : ofI y m d = ofI y m 1 + (d - 1) := by unfold ofI; split <;> omega
theorem ofI_month {y m : Int} (hy : 0 ≤ y) (h1 : 1 ≤ m) (h2 : m ≤ 11) : ofI y (m + 1) 1 = ofI y m 1 + longI y m := by
  have hv := longI_vals y
  have hl := lp_spec hy
  rcases months12 h1 (by omega) with rfl | rfl | rfl | rfl | rfl | rfl | rfl | rfl | rfl | rfl | rfl | rfl <;> simp only [ofI] <;> simp <;> omega
theorem ofI_year {y : Int} (hy : 0 ≤ y) : ofI (y + 1) 1 1 = ofI y 1 1 + (365 + lp y) := by
  have hl := lp_spec hy
  simp only [ofI]; simp; omega
theorem ofI_dec {y : Int} (hy : 0 ≤ y) : ofI (y + 1) 1 1 = ofI y 12 1 + 31 := by
  have hl := lp_spec hy
  simp only [ofI]; simp; omega
theorem ofI_1970 : ofI 1970 1 1 = 0 := by decide
theorem ofI_mono {a b : Int} (_ : 0 ≤ a) (h : a ≤ b) : ofI a 1 1 ≤ ofI b 1 1 := by simp only [ofI]; simp; omega
theorem ofI_lo {y m : Int} (hy : 0 ≤ y) (h1 : 1 ≤ m) (h2 : m ≤ 12) : ofI y 1 1 ≤ ofI y m 1 ∧ ofI y m 1 + longI y m ≤ ofI (y + 1) 1 1 := by
  have hv := longI_vals y
  have hl := lp_spec hy
  rcases months12 h1 h2 with rfl | rfl | rfl | rfl | rfl | rfl | rfl | rfl | rfl | rfl | rfl | rfl <;> simp only [ofI] <;> simp <;> omega
theorem ofI_month_lt {y m k : Int} (hy : 0 ≤ y) (h1 : 1 ≤ m) (hk : m < k) (h2 : k ≤ 12) : ofI y m 1 + longI y m ≤ ofI y k 1 := by
  have hv := longI_vals y
  have hl := lp_spec hy
  rcases months12 h1 (by omega) with rfl | rfl | rfl | rfl | rfl | rfl | rfl | rfl | rfl | rfl | rfl | rfl <;>
  rcases months12 (show 1 ≤ k by omega) h2 with rfl | rfl | rfl | rfl | rfl | rfl | rfl | rfl | rfl | rfl | rfl | rfl <;> first | (exfalso; omega) | (simp only [ofI]; simp; omega)

/-- One date a number. -/
theorem date_one {y m d y' m' d' : Int} (h : dateB y m d = true) (h' : dateB y' m' d' = true) (e : ofI y m d = ofI y' m' d') : y = y' ∧ m = m' ∧ d = d' := by
  obtain ⟨a1, a2, a3, a4, a5, a6⟩ := date_bd h
  obtain ⟨b1, b2, b3, b4, b5, b6⟩ := date_bd h'
  have c1 := ((dateB_iff _ _ _).1 h).2.2.2
  have c2 := ((dateB_iff _ _ _).1 h').2.2.2
  rw [ofI_day y m d, ofI_day y' m' d'] at e
  have l1 := ofI_lo (y := y) (by omega) a3 a4
  have l2 := ofI_lo (y := y') (by omega) b3 b4
  have hy : y = y' := by
    rcases Int.lt_trichotomy y y' with hlt | he | hgt
    · have := ofI_mono (a := y + 1) (b := y') (by omega) (by omega); omega
    · exact he
    · have := ofI_mono (a := y' + 1) (b := y) (by omega) (by omega); omega
  subst hy
  have hm : m = m' := by
    rcases Int.lt_trichotomy m m' with hlt | he | hgt
    · have := ofI_month_lt (y := y) (by omega) a3 hlt b4; omega
    · exact he
    · have := ofI_month_lt (y := y) (by omega) b3 hgt a4; omega
  subst hm
  exact ⟨rfl, rfl, by omega⟩

/-- The date that the code reckons for a number is one, and has that number. -/
theorem at_right (n : Int) (h0 : 0 ≤ n) (h1 : n ≤ 2932896) : dateB (atY n) (atM n) (atD n) = true ∧ ofI (atY n) (atM n) (atD n) = n := by
  have e1 : pN n 1 = pN n 0 - pk (pN n 0) 0 * pD 0 := rfl
  have e2 : pN n 2 = pN n 1 - pk (pN n 1) 1 * pD 1 := rfl
  have e3 : pN n 3 = pN n 2 - pk (pN n 2) 2 * pD 2 := rfl
  have e4 : pN n 4 = pN n 3 - pk (pN n 3) 3 * pD 3 := rfl
  have s4 : pS n 4 = 0 + pk (pN n 0) 0 * pY 0 + pk (pN n 1) 1 * pY 1 + pk (pN n 2) 2 * pY 2 + pk (pN n 3) 3 * pY 3 := rfl
  have e0 : pN n 0 = n + 719468 := rfl
  have k0 : pk (pN n 0) 0 = pN n 0 / 146097 := by simp only [pk, pD, pM]; split <;> omega
  have k1 : pk (pN n 1) 1 = if pN n 1 / 36524 ≤ 3 then pN n 1 / 36524 else 3 := rfl
  have k2 : pk (pN n 2) 2 = if pN n 2 / 1461 ≤ 24 then pN n 2 / 1461 else 24 := rfl
  have k3 : pk (pN n 3) 3 = if pN n 3 / 365 ≤ 3 then pN n 3 / 365 else 3 := rfl
  simp only [pD] at e1 e2 e3 e4
  simp only [pY] at s4
  have hY : atY n = if 12 < atK n + 3 then pS n 4 + 1 else pS n 4 := rfl
  have hM : atM n = if 12 < atK n + 3 then atK n + 3 - 12 else atK n + 3 := rfl
  have hD : atD n = pN n 4 - (153 * atK n + 2) / 5 + 1 := rfl
  have hK : atK n = (5 * pN n 4 + 2) / 153 := rfl
  generalize atY n = Y at *
  generalize atM n = M at *
  generalize atD n = D at *
  generalize atK n = K at *
  generalize pS n 4 = S at *
  generalize pN n 4 = q at *
  generalize pN n 0 = n0 at *
  generalize pN n 1 = n1 at *
  generalize pN n 2 = n2 at *
  generalize pN n 3 = n3 at *
  generalize pk n0 0 = a at *
  generalize pk n1 1 = b at *
  generalize pk n2 2 = c at *
  generalize pk n3 3 = d at *
  have b1 : 0 ≤ b ∧ b ≤ 3 ∧ 0 ≤ n2 ∧ n2 ≤ 36524 ∧ (n2 = 36524 → b = 3) := by split at k1 <;> omega
  have b2 : 0 ≤ c ∧ c ≤ 24 ∧ 0 ≤ n3 ∧ n3 ≤ 1460 ∧ (n3 = 1460 → c = 24 → b = 3) := by split at k2 <;> omega
  have b3 : 0 ≤ d ∧ d ≤ 3 ∧ 0 ≤ q ∧ q ≤ 365 ∧ (q = 365 → d = 3 ∧ n3 = 1460) := by split at k3 <;> omega
  have hS : S = 400 * a + 100 * b + 4 * c + d := by omega
  have hn : n + 719468 = 146097 * a + 36524 * b + 1461 * c + 365 * d + q := by omega
  have ha : 4 ≤ a ∧ a ≤ 25 := by omega
  clear k0 k1 k2 k3 e0 e1 e2 e3 e4 s4
  have hlo : 1969 ≤ S ∧ S ≤ 9999 := by omega
  have hlo2 : S = 1969 → 306 ≤ q := by omega
  have hhi2 : S = 9999 → q ≤ 305 := by omega
  have d4 : S / 4 = 100 * a + 25 * b + c := by omega
  have d100 : S / 100 = 4 * a + b := by omega
  have d400 : S / 400 = a := by omega
  have hK0 : 0 ≤ K ∧ K ≤ 11 := by omega
  have hv := longI_vals Y
  have hl := lp_spec (y := Y) (by split at hY <;> omega)
  have hleap : q = 365 → lp (S + 1) = 1 := by
    intro hq
    have := lp_spec (y := S + 1) (by omega)
    have h1 := b3.2.2.2.2 hq
    have h2 := b2.2.2.2.2 h1.2
    omega
  have hnum : ofI Y M D = n := by
    unfold ofI
    by_cases h12 : 12 < K + 3
    · rw [if_pos h12] at hY hM
      rw [if_pos (by omega)]
      have y1 : Y - 1 = S := by omega
      rw [y1, d4, d100, d400]
      have m1 : M + 9 = K := by omega
      rw [m1]; omega
    · rw [if_neg h12] at hY hM
      rw [if_neg (by omega)]
      rw [hY, d4, d100, d400]
      have m1 : M - 3 = K := by omega
      rw [m1]; omega
  refine ⟨(dateB_iff _ _ _).2 ?_, hnum⟩
  clear hnum
  have hKs : K = 0 ∨ K = 1 ∨ K = 2 ∨ K = 3 ∨ K = 4 ∨ K = 5 ∨ K = 6 ∨ K = 7 ∨ K = 8 ∨ K = 9 ∨ K = 10 ∨ K = 11 := by omega
  have hq3 : 0 ≤ q ∧ q ≤ 365 := ⟨b3.2.2.1, b3.2.2.2.1⟩
  clear d4 d100 d400 hn hS ha b1 b2 b3 hl
  rcases hKs with rfl | rfl | rfl | rfl | rfl | rfl | rfl | rfl | rfl | rfl | rfl | rfl <;> simp at hY hM <;> subst hM hY
  all_goals first
    | (refine ⟨by omega, by omega, by omega, ?_⟩; omega)
    | (refine ⟨by omega, by omega, by omega, ?_⟩
       have hb := lp_bd (S + 1)
       by_cases hq : q = 365
       · have := hleap hq; omega
       · omega)
end Go.Proofs.YtpolhepihkbfnaaDoor
