/-
  The calendar (package days): what its calls answer.
-/
import Derived.Test.YtpolhepihkbfnaaDoorBase
namespace Go.Proofs.YtpolhepihkbfnaaDoor
set_option linter.unusedVariables false
set_option linter.unusedSimpArgs false
open Go.RowKit

set_option maxHeartbeats 400000 in
theorem leap1_any (y n : Int) (g : Nat) (w : World) (hn : 1 ≤ n) (hc : w.cell? ⟨g, 0, none⟩ = some (.int .i64 y)) :
    Calls Tryd.prog 93 #[.int .i64 n, .pointer (some ⟨g, 0, none⟩)] w fun e w' => e = .returned (.bool (y.tmod n == 0)) ∧ w = w' := by
  go_enter Tryd.func93, Tryd.ntmps93
  go_wp2
  go_ret
  exact ⟨rfl, rfl⟩

def leapB (y : Int) : Bool := (y.tmod 4 == 0) && (!(y.tmod 100 == 0) || (y.tmod 400 == 0))

set_option maxHeartbeats 400000 in
theorem leap_any (y : Int) (w : World) :
    Calls Tryd.prog 81 #[.int .i64 y] w fun e w' => e = .returned (.bool (leapB y)) ∧ Below w.heap.size w w' := by
  go_enter Tryd.func81, Tryd.ntmps81
  go_wp2_with (first | (go_at_call 93; refine (leap1_any y _ _ _ (by decide) (by go_simp)).mono ?_; rintro e w' ⟨rfl, rfl⟩))
  all_goals
    go_ret
    exact ⟨by simp [leapB, *], (Below.refl _ _).alloc (Nat.le_refl _) _⟩

def longT : List Int := [0, 31, 28, 31, 30, 31, 30, 31, 31, 30, 31, 30, 31]
def LongTab (w : World) : Prop := 0 < w.heap.size ∧ ∀ k : Nat, k < 13 → w.cell? ⟨0, k, none⟩ = some (.int .i64 (longT.getD k 0))
theorem LongTab.below {w w' : World} (h : LongTab w) (hb : Below w.heap.size w w') : LongTab w' :=
  ⟨Nat.lt_of_lt_of_le h.1 hb.size, fun k hk => (hb.cell (p := ⟨0, k, none⟩) h.1).trans (h.2 k hk)⟩
def longI (y m : Int) : Int := if m < 1 ∨ 13 ≤ m then 0 else longT.getD m.toNat 0 + (if m = 2 ∧ leapB y = true then 1 else 0)
theorem longT_bd (k : Nat) : 0 ≤ longT.getD k 0 ∧ longT.getD k 0 ≤ 31 := by
  by_cases h : k < 13
  · have : k = 0 ∨ k = 1 ∨ k = 2 ∨ k = 3 ∨ k = 4 ∨ k = 5 ∨ k = 6 ∨ k = 7 ∨ k = 8 ∨ k = 9 ∨ k = 10 ∨ k = 11 ∨ k = 12 := by omega
    rcases this with rfl | rfl | rfl | rfl | rfl | rfl | rfl | rfl | rfl | rfl | rfl | rfl | rfl <;> decide
  · have : longT.getD k 0 = 0 := by simp [longT, List.getD]; rw [List.getElem?_eq_none (by simp; omega)]; rfl
    omega

set_option maxHeartbeats 400000 in
theorem long_any (y m : Int) (w : World) (hT : LongTab w) :
    Calls Tryd.prog 71 #[.int .i64 y, .int .i64 m] w fun e w' => e = .returned (.int .i64 (longI y m)) ∧ Below w.heap.size w w' := by
  by_cases h1 : m < 1
  · go_enter Tryd.func71, Tryd.ntmps71
    go_wp2_with fail
    go_ret
    exact ⟨by simp [longI, h1], Below.refl _ _⟩
  by_cases h2 : 13 ≤ m
  · go_enter Tryd.func71, Tryd.ntmps71
    go_wp2_with fail
    go_ret
    exact ⟨by simp [longI, h2], Below.refl _ _⟩
  by_cases h3 : m = 2
  · subst h3
    have hc : w.cell? ⟨0, 2, none⟩ = some (.int .i64 28) := hT.2 2 (by omega)
    clear h1 h2
    cases hl : leapB y
    all_goals
      go_enter Tryd.func71, Tryd.ntmps71
      go_wp2_with (first | (go_at_call 81; refine (leap_any _ _).mono ?_; rintro e w' ⟨rfl, hw⟩))
      go_ret
      exact ⟨by simp [longI, hl, longT], hw⟩
  · obtain ⟨k, rfl⟩ : ∃ k : Nat, m = k := ⟨m.toNat, by omega⟩
    have hc := hT.2 k (by omega)
    have hb := longT_bd k
    have h4 : ((k : Int) == 2) = false := by simpa using h3
    have h3' := Lib.hid h3
    clear h3
    go_enter Tryd.func71, Tryd.ntmps71
    go_wp2_with (first | (go_at_call 81; refine (leap_any _ _).mono ?_; rintro e w' ⟨rfl, hw⟩))
    go_ret
    have h5 : ¬ ((k : Int) < 1 ∨ 13 ≤ (k : Int)) := by omega
    exact ⟨by simp only [longI, if_neg h5, h3'.out, false_and, if_false, Int.add_zero]; simp, Below.refl _ _⟩

def dateV (y m d : Int) : Value := .agg #[.int .i64 y, .int .i64 m, .int .i64 d]
def dateB (y m d : Int) : Bool := decide (1970 ≤ y) && decide (y ≤ 9999) && decide (1 ≤ d) && decide (d ≤ longI y m)
def eV (n : Int) : Value := .int .i64 n
theorem dateB_iff (y m d : Int) : dateB y m d = true ↔ (1970 ≤ y ∧ y ≤ 9999 ∧ 1 ≤ d ∧ d ≤ longI y m) := by
  unfold dateB; simp [and_assoc]
set_option maxHeartbeats 400000 in
theorem dcheck_any (y m d : Int) (w : World) (hT : LongTab w) :
    Calls Tryd.prog 61 #[dateV y m d] w fun e w' => e = .returned (.int .i64 (okI (dateB y m d) 140)) ∧ Below w.heap.size w w' := by
  unfold dateV
  go_enter Tryd.func61, Tryd.ntmps61
  go_wp2_with fail
  have hb : Below w.heap.size w (w.alloc (.cells #[.int .i64 y, .int .i64 m, .int .i64 d] 62)) := (Below.refl _ _).alloc (Nat.le_refl _) _
  generalize hW : w.alloc (.cells #[.int .i64 y, .int .i64 m, .int .i64 d] 62) = W at hb ⊢
  have hlt : w.heap.size < W.heap.size := by subst hW; simp
  have c0 := fun u : Up W => u.cell (p := ⟨w.heap.size, 0, none⟩) (v := .int .i64 y) (by subst hW; go_simp) hlt
  have c1 := fun u : Up W => u.cell (p := ⟨w.heap.size, 1, none⟩) (v := .int .i64 m) (by subst hW; go_simp) hlt
  have c2 := fun u : Up W => u.cell (p := ⟨w.heap.size, 2, none⟩) (v := .int .i64 d) (by subst hW; go_simp) hlt
  clear hW
  have hT1 : LongTab W := hT.below hb
  refine wp_region_up (by kernel_rfl) (by kernel_rfl) ?_
  repeat (any_goals (first | go_big_quiet_step (exact Calls.up_of (long_any _ _ _ (hT1.below (Subtype.property _)))) | quiet_step (exact Calls.up_of (long_any _ _ _ (hT1.below (Subtype.property _)))) | (refine wpQuiet_step (fun K hK => ?_); go_simp; split <;> (refine hK _ ?_; clear hK K))))
  all_goals (refine wpQuiet_nil ?_; rintro _ ⟨u, rfl⟩)
  all_goals
    have hu := hb.trans (u.2.mono hb.size)
    clear c0 c1 c2 hT hT1
    go_wp2
  all_goals
    go_ret
    refine ⟨ret_int ?_, hu⟩
    clear hb hlt hu
    have hd := dateB_iff y m d
    cases hx : dateB y m d <;> simp only [hx, okI_true, okI_false, Bool.false_eq_true, false_iff, true_iff] at hd ⊢ <;> omega

set_option maxHeartbeats 400000 in
theorem months_any (m : Int) (w : World) (h0 : 0 ≤ m) (h1 : m ≤ 1000) :
    Calls Tryd.prog 63 #[.int .i64 m] w fun e w' => e = .returned (.int .i64 ((153 * m + 2) / 5)) ∧ w = w' := by
  go_enter Tryd.func63, Tryd.ntmps63
  go_wp2
  go_ret
  exact ⟨rfl, rfl⟩

def dayB (n : Int) : Bool := decide (0 ≤ n) && decide (n ≤ 2932896)
set_option maxHeartbeats 400000 in
theorem day_any (n : Int) (w : World) :
    Calls Tryd.prog 64 #[.int .i64 n] w fun e w' => e = .returned (.bool (dayB n)) ∧ w = w' := by
  go_enter Tryd.func64, Tryd.ntmps64
  go_wp2
  all_goals
    go_ret
    exact ⟨ret_bool (by simp [dayB, *] <;> omega), rfl⟩

/-- The number of a date that may be, as the code reckons it. -/
def ofI (y m d : Int) : Int :=
  if m < 3 then (y - 1) * 365 + (y - 1) / 4 - (y - 1) / 100 + (y - 1) / 400 + (153 * (m + 9) + 2) / 5 + d - 1 - 719468
  else y * 365 + y / 4 - y / 100 + y / 400 + (153 * (m - 3) + 2) / 5 + d - 1 - 719468
def ofN (y m d : Int) : Int := if dateB y m d = true then ofI y m d else 0

theorem longI_bd (y m : Int) : 0 ≤ longI y m ∧ longI y m ≤ 32 := by
  have := longT_bd m.toNat
  unfold longI
  split
  · omega
  · split <;> omega
theorem date_bd {y m d : Int} (h : dateB y m d = true) : 1970 ≤ y ∧ y ≤ 9999 ∧ 1 ≤ m ∧ m ≤ 12 ∧ 1 ≤ d ∧ d ≤ 32 := by
  have h1 := (dateB_iff y m d).1 h
  have h2 := longI_bd y m
  by_cases hm : m < 1 ∨ 13 ≤ m
  · have h3 : longI y m = 0 := by unfold longI; rw [if_pos hm]
    omega
  · omega

attribute [local go_sem] Up.new
set_option maxHeartbeats 1000000 in
theorem dof_any (y m d : Int) (w : World) (hT : LongTab w) :
    Calls Tryd.prog 43 #[dateV y m d] w fun e w' => e = .returned (.tuple #[.int .i64 (ofN y m d), .int .i64 (okI (dateB y m d) 140)]) ∧ Below w.heap.size w w' := by
  have hcall : ∀ W : World, LongTab W → Calls Tryd.prog 61 #[.agg #[.int .i64 y, .int .i64 m, .int .i64 d]] W fun e w' => e = .returned (.int .i64 (okI (dateB y m d) 140)) ∧ ∃ u : Up W, w' = u.1 := fun W h => Calls.toUp (dcheck_any y m d W h)
  unfold dateV
  cases hd : dateB y m d
  · simp only [hd, okI_false] at hcall
    go_enter Tryd.func43, Tryd.ntmps43
    go_wp2_with (go_at_call 61; refine (hcall _ (hT.below ((Below.refl _ _).alloc (Nat.le_refl _) _))).mono ?_; rintro e _ ⟨rfl, u, rfl⟩)
    go_ret2
    exact ⟨by simp [ofN, hd, okI_false], u.box⟩
  · simp only [hd, okI_true] at hcall
    obtain ⟨y1, y2, m1, m2, d1, d2⟩ := date_bd hd
    have hd' := Lib.hid hd
    clear hd
    by_cases h3 : m < 3
    all_goals
      go_enter Tryd.func43, Tryd.ntmps43
      go_wp2_with (go_at_call 61; refine (hcall _ (hT.below ((Below.refl _ _).alloc (Nat.le_refl _) _))).mono ?_; rintro e _ ⟨rfl, u, rfl⟩)
      refine wp_region_upu (by kernel_rfl) (by kernel_rfl) ?_
      repeat (go_big_quiet_step (fail))
      refine wpQuiet_nil ?_
      rintro _ ⟨u, rfl⟩
      go_wp2_with fail
      refine wp_region_upu (by kernel_rfl) (by kernel_rfl) ?_
      repeat (go_big_quiet_step ((go_at_call 63; exact Calls.up_same (months_any _ _ (by omega) (by omega)))))
      refine wpQuiet_nil ?_
      rintro _ ⟨u, rfl⟩
      go_wp2_with fail
      go_ret2
      refine ⟨ret2_int ?_ rfl, u.box⟩
      rw [ofN, if_pos hd'.out, ofI]
      split <;> omega
end Go.Proofs.YtpolhepihkbfnaaDoor
