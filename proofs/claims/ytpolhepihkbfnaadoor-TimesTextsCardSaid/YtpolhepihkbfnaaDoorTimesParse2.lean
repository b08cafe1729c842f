/-
  The time of a text (package times): what it answers.
-/
import Derived.Test.YtpolhepihkbfnaaDoorTimesParse
namespace Go.Proofs.YtpolhepihkbfnaaDoor
set_option linter.unusedVariables false
set_option linter.unusedSimpArgs false
open Go.RowKit
attribute [local go_sem] Up.new Up.newF

set_option maxRecDepth 100000 in
set_option maxHeartbeats 20000000 in
theorem parse_not19 (s : ByteArray) (w : World) (hs : s.size ≠ 19) (hm : s.size ≤ 100) (hT : LongTab w) :
    Calls Tryd.prog 9 #[.string s] w fun e w' => e = .returned (.tuple #[.int .i64 0, .int .i64 151]) ∧ Below w.heap.size w w' := by
  have hs1 : ((s.size : Int) == 19) = false := by simp; omega
  have hs2 := Lib.hid hs
  clear hs
  have hT1 : ∀ o, LongTab (w.alloc o) := fun o => hT.below ((Below.refl _ _).alloc (Nat.le_refl _) _)
  have hT2 : ∀ o o', LongTab ((w.alloc o).alloc o') := fun o o' => (hT1 o).below ((Below.refl _ _).alloc (Nat.le_refl _) _)
  have hof := fun o o' => Calls.toUp (tof_any 0 0 0 0 0 0 ((w.alloc o).alloc o') (hT2 o o'))
  have hat := fun {W : World} (u : Up W) => Calls.up_of (tat_yes 0 u.1 (by decide))
  have hN : tofN 0 0 0 0 0 0 = 0 := by decide
  have hC : civB 0 0 0 0 0 0 = false := by decide
  simp only [hN, hC, okI_false] at hof
  unfold civV at hof hat
  clear hN hC
  go_enter Tryd.func9, Tryd.ntmps9
  go_wp2_with fail
  go_step3
  go_wp2_with fail
  go_step3
  go_wp2_with fail
  refine wp_loop_once ?_
  go_wp2_with (first | (go_at_call 16; refine (hof _ _).mono ?_; rintro e _ ⟨rfl, u, rfl⟩) | (go_at_call 18; refine (hat u).mono ?_; rintro e _ ⟨rfl, u, rfl⟩; have hlt2 := u.size_lt))
  rw [Exit.noGoto_ret]
  go_ret2
  exact ⟨rfl, ((((Below.refl _ _).alloc (Nat.le_refl _) _).alloc (by simp) _).trans (u.2.mono (by simp; omega))).alloc (by have := u.2.size; simp at this; omega) _⟩

/-- Is it a time's text? -/
noncomputable def parseOk (s : ByteArray) : Bool :=
  @decide (s.size = 19 ∧ (∀ j, j < 19 → okP (bI s) j) ∧ ∀ y m d hh mi ss, numsL (bI s) 19 = [y, m, d, hh, mi, ss] → civB y m d hh mi ss = true) (Classical.propDecidable _)
/-- The numbers of a text of the form. -/
def nP (s : ByteArray) (k : Nat) : Int := (numsL (bI s) 19).getD k 0
theorem numsL_nP (s : ByteArray) : numsL (bI s) 19 = [nP s 0, nP s 1, nP s 2, nP s 3, nP s 4, nP s 5] := rfl
noncomputable def parseT (s : ByteArray) : Int := if parseOk s = true then tofI (nP s 0) (nP s 1) (nP s 2) (nP s 3) (nP s 4) (nP s 5) else 0
theorem parseOk_iff (s : ByteArray) : parseOk s = true ↔ (s.size = 19 ∧ (∀ j, j < 19 → okP (bI s) j) ∧ civB (nP s 0) (nP s 1) (nP s 2) (nP s 3) (nP s 4) (nP s 5) = true) := by
  unfold parseOk
  refine (@decide_eq_true_iff _ (Classical.propDecidable _)).trans ?_
  refine ⟨fun ⟨h1, h2, h3⟩ => ⟨h1, h2, h3 _ _ _ _ _ _ (numsL_nP s)⟩, fun ⟨h1, h2, h3⟩ => ⟨h1, h2, fun y m d hh mi ss h => ?_⟩⟩
  rw [numsL_nP] at h
  simp only [List.cons.injEq, and_true] at h
  obtain ⟨rfl, rfl, rfl, rfl, rfl, rfl⟩ := h
  exact h3

theorem parse_any (s : ByteArray) (w : World) (hm : s.size ≤ 100) (hT : LongTab w) :
    Calls Tryd.prog 9 #[.string s] w fun e w' => e = .returned (.tuple #[.int .i64 (parseT s), .int .i64 (okI (parseOk s) 151)]) ∧ Below w.heap.size w w' := by
  by_cases hs : s.size = 19
  · refine parse_19 s w hs hT _ _ (fun y m d hh mi ss h h1 h2 => ?_) (fun y m d hh mi ss h h1 => ?_)
    · rw [numsL_nP] at h
      simp only [List.cons.injEq, and_true] at h
      obtain ⟨rfl, rfl, rfl, rfl, rfl, rfl⟩ := h
      have hp : parseOk s = true := (parseOk_iff s).2 ⟨hs, h1, h2⟩
      exact ⟨by unfold parseT; rw [if_pos hp], by rw [hp]; rfl⟩
    · rw [numsL_nP] at h
      simp only [List.cons.injEq, and_true] at h
      obtain ⟨rfl, rfl, rfl, rfl, rfl, rfl⟩ := h
      have hp : ¬ parseOk s = true := fun hp => h1 ((parseOk_iff s).1 hp).2
      exact ⟨by unfold parseT; rw [if_neg hp], by rw [Bool.not_eq_true] at hp; rw [hp]; rfl⟩
  · have hp : ¬ parseOk s = true := fun hp => hs ((parseOk_iff s).1 hp).1
    have e1 : parseT s = 0 := by unfold parseT; rw [if_neg hp]
    have e2 : okI (parseOk s) 151 = 151 := by rw [Bool.not_eq_true] at hp; rw [hp]; rfl
    rw [e1, e2]
    exact parse_not19 s w hs hm hT
end Go.Proofs.YtpolhepihkbfnaaDoor
