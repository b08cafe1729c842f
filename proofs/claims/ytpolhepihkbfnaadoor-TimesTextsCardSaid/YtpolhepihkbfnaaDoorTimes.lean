/-
  Seconds and civil times (package times): checks, and the ways to and fro.
-/
import Derived.Test.YtpolhepihkbfnaaDoorRefDays
namespace Go.Proofs.YtpolhepihkbfnaaDoor
set_option linter.unusedVariables false
set_option linter.unusedSimpArgs false
open Go.RowKit
attribute [local go_sem] Up.new Up.newF

def civV (y m d hh mi ss : Int) : Value := .agg #[.int .i64 y, .int .i64 m, .int .i64 d, .int .i64 hh, .int .i64 mi, .int .i64 ss]
def mayB (t : Int) : Bool := decide (0 ≤ t) && decide (t ≤ 253402300799)
theorem mayB_iff (t : Int) : mayB t = true ↔ (0 ≤ t ∧ t ≤ 253402300799) := by simp [mayB]

set_option maxHeartbeats 400000 in
theorem may_any (t : Int) (w : World) :
    Calls Tryd.prog 35 #[.int .i64 t] w fun e w' => e = .returned (.bool (mayB t)) ∧ w = w' := by
  go_enter Tryd.func35, Tryd.ntmps35
  go_wp2
  all_goals
    go_ret
    refine ⟨ret_bool (Bool.eq_iff_iff.2 ?_), rfl⟩
    simp only [mayB_iff, decide_eq_true_eq, Bool.false_eq_true, false_iff]
    omega

def hmsB (a b c : Int) : Bool := decide (0 ≤ a) && decide (a < 24) && decide (0 ≤ b) && decide (b < 60) && decide (0 ≤ c) && decide (c < 60)
theorem hmsB_iff (a b c : Int) : hmsB a b c = true ↔ (0 ≤ a ∧ a < 24 ∧ 0 ≤ b ∧ b < 60 ∧ 0 ≤ c ∧ c < 60) := by simp [hmsB, and_assoc]

set_option maxHeartbeats 2000000 in
theorem within_any (g : Nat) (a b c : Int) (w : World) (hg : g < w.heap.size) (c0 : w.cell? ⟨g, 0, none⟩ = some (.int .i64 a)) (c1 : w.cell? ⟨g, 1, none⟩ = some (.int .i64 24))
    (c2 : w.cell? ⟨g, 2, none⟩ = some (.int .i64 b)) (c3 : w.cell? ⟨g, 3, none⟩ = some (.int .i64 60)) (c4 : w.cell? ⟨g, 4, none⟩ = some (.int .i64 c)) (c5 : w.cell? ⟨g, 5, none⟩ = some (.int .i64 60)) :
    Calls Tryd.prog 62 #[.slice (some ⟨g, 0, none⟩) 3 3] w fun e w' => e = .returned (.bool (hmsB a b c)) ∧ Below w.heap.size w w' := by
  have hi := hmsB_iff a b c
  generalize hmsB a b c = R at hi ⊢
  have HI := Lib.hid hi
  clear hi
  have d0 := fun u : Up w => u.cell c0 hg
  have d1 := fun u : Up w => u.cell c1 hg
  have d2 := fun u : Up w => u.cell c2 hg
  have d3 := fun u : Up w => u.cell c3 hg
  have d4 := fun u : Up w => u.cell c4 hg
  have d5 := fun u : Up w => u.cell c5 hg
  go_enter Tryd.func62, Tryd.ntmps62
  go_wp2_with fail
  go_loopw [7] (fun i wr => (∃ u : Up w, wr = u.1) ∧ ((i = .int .i64 0) ∨ (i = .int .i64 1 ∧ 0 ≤ a ∧ a < 24) ∨ (i = .int .i64 2 ∧ 0 ≤ a ∧ a < 24 ∧ 0 ≤ b ∧ b < 60) ∨ (i = .int .i64 3 ∧ 0 ≤ a ∧ a < 24 ∧ 0 ≤ b ∧ b < 60 ∧ 0 ≤ c ∧ c < 60))) (fun i _ => (3 - intOf i).toNat)
  case atStart => exact ⟨⟨⟨_, Below.refl _ _⟩, rfl⟩, .inl rfl⟩
  case round =>
    obtain ⟨⟨u, rfl⟩, h⟩ := hrel
    rcases h with rfl | ⟨rfl, h1, h2⟩ | ⟨rfl, h1, h2, h3, h4⟩ | ⟨rfl, h1, h2, h3, h4, h5, h6⟩
    all_goals
      have hu := u.2
      have hs := u.2.size
      go_wp2_with fail
    all_goals first
      | (go_ret
         refine ⟨ret_bool (Bool.eq_iff_iff.2 ?_), ?_⟩
         · rw [HI.out]; simp only [Bool.false_eq_true, false_iff, true_iff]; omega
         · first | exact hu | exact hu.alloc hs _)
      | (go_roundw
         case measure => simp [intOf]
         case rel =>
           refine ⟨⟨⟨_, hu.alloc hs _⟩, rfl⟩, ?_⟩
           first
             | exact .inr (.inl ⟨rfl, by omega, by omega⟩)
             | exact .inr (.inr (.inl ⟨rfl, by omega, by omega, by omega, by omega⟩))
             | exact .inr (.inr (.inr ⟨rfl, by omega, by omega, by omega, by omega, by omega, by omega⟩)))

def civB (y m d hh mi ss : Int) : Bool := dateB y m d && hmsB hh mi ss

set_option maxHeartbeats 2000000 in
theorem tcheck_any (y m d hh mi ss : Int) (w : World) (hT : LongTab w) :
    Calls Tryd.prog 42 #[civV y m d hh mi ss] w fun e w' => e = .returned (.int .i64 (okI (civB y m d hh mi ss) 150)) ∧ Below w.heap.size w w' := by
  have hcall : ∀ W : World, LongTab W → Calls Tryd.prog 61 #[.agg #[.int .i64 y, .int .i64 m, .int .i64 d]] W fun e w' => e = .returned (.int .i64 (okI (dateB y m d) 140)) ∧ ∃ u : Up W, w' = u.1 := fun W h => Calls.toUp (dcheck_any y m d W h)
  have hT1 : ∀ o, LongTab (w.alloc o) := fun o => hT.below ((Below.refl _ _).alloc (Nat.le_refl _) _)
  unfold civV
  cases hd : dateB y m d
  · simp only [hd, okI_false] at hcall
    go_enter Tryd.func42, Tryd.ntmps42
    go_wp2_with ((go_at_call 61; refine (hcall _ (hT1 _)).mono ?_; rintro e _ ⟨rfl, u, rfl⟩))
    go_ret
    exact ⟨by simp [civB, hd, okI_false], u.box⟩
  · simp only [hd, okI_true] at hcall
    cases hx : hmsB hh mi ss
    all_goals
      go_enter Tryd.func42, Tryd.ntmps42
      go_wp2_with (first | (go_at_call 61; refine (hcall _ (hT1 _)).mono ?_; rintro e _ ⟨rfl, u, rfl⟩) | (go_at_call 62; refine (Calls.toUp (within_any _ hh mi ss _ (by simp) (by go_simp) (by go_simp) (by go_simp) (by go_simp) (by go_simp) (by go_simp))).mono ?_; rw [hx]; rintro e _ ⟨rfl, v, rfl⟩))
      go_ret
      exact ⟨by simp [civB, hd, hx, okI], (Up.down v).box⟩

def tofI (y m d hh mi ss : Int) : Int := ofI y m d * 86400 + hh * 3600 + mi * 60 + ss
def tofN (y m d hh mi ss : Int) : Int := if civB y m d hh mi ss = true then tofI y m d hh mi ss else 0

set_option maxHeartbeats 2000000 in
theorem tof_any (y m d hh mi ss : Int) (w : World) (hT : LongTab w) :
    Calls Tryd.prog 16 #[civV y m d hh mi ss] w fun e w' => e = .returned (.tuple #[.int .i64 (tofN y m d hh mi ss), .int .i64 (okI (civB y m d hh mi ss) 150)]) ∧ Below w.heap.size w w' := by
  have hcall : ∀ W : World, LongTab W → Calls Tryd.prog 42 #[.agg #[.int .i64 y, .int .i64 m, .int .i64 d, .int .i64 hh, .int .i64 mi, .int .i64 ss]] W fun e w' => e = .returned (.int .i64 (okI (civB y m d hh mi ss) 150)) ∧ ∃ u : Up W, w' = u.1 := fun W h => Calls.toUp (tcheck_any y m d hh mi ss W h)
  have hcall2 : ∀ {W : World} (u : Up W), LongTab u.1 → Calls Tryd.prog 43 #[.agg #[.int .i64 y, .int .i64 m, .int .i64 d]] u.1 fun e w' => e = .returned (.tuple #[.int .i64 (ofN y m d), .int .i64 (okI (dateB y m d) 140)]) ∧ ∃ u : Up W, w' = u.1 := fun u h => Calls.up_of (dof_any y m d u.1 h)
  have hT1 : ∀ o, LongTab (w.alloc o) := fun o => hT.below ((Below.refl _ _).alloc (Nat.le_refl _) _)
  have hT2 : ∀ o (u : Up (w.alloc o)), LongTab u.1 := fun o u => (hT1 o).below u.2
  unfold civV
  cases hc : civB y m d hh mi ss
  · simp only [hc, okI_false] at hcall
    clear hcall2
    go_enter Tryd.func16, Tryd.ntmps16
    go_wp2_with ((go_at_call 42; refine (hcall _ (hT1 _)).mono ?_; rintro e _ ⟨rfl, u, rfl⟩))
    go_ret2
    exact ⟨by simp [tofN, hc, okI_false], u.box⟩
  · simp only [hc, okI_true] at hcall
    have hd : dateB y m d = true := by unfold civB at hc; simp at hc; exact hc.1
    have hx : hmsB hh mi ss = true := by unfold civB at hc; simp at hc; exact hc.2
    obtain ⟨h0, h1, h2, h3, h4, h5⟩ := (hmsB_iff _ _ _).1 hx
    have hr := ofI_range hd
    have hN : ofN y m d = ofI y m d := by unfold ofN; rw [if_pos hd]
    simp only [hd, okI_true, hN] at hcall2
    have HE : Hid (tofN y m d hh mi ss = ofI y m d * 86400 + hh * 3600 + mi * 60 + ss) := by unfold tofN; rw [if_pos hc]; rfl
    clear hN hd hx hc
    generalize ofI y m d = R at *
    go_enter Tryd.func16, Tryd.ntmps16
    go_wp2_with (first | (go_at_call 42; refine (hcall _ (hT1 _)).mono ?_; rintro e _ ⟨rfl, u, rfl⟩) | (go_at_call 43; refine (hcall2 u (hT2 _ u)).mono ?_; rintro e _ ⟨rfl, u, rfl⟩))
    go_ret2
    exact ⟨ret2_int HE.out.symm rfl, u.box⟩

/-- A time's parts, as the code reckons them. -/
def tq (t : Int) : Int := t / 86400
def tr (t : Int) : Int := t % 86400

set_option maxHeartbeats 2000000 in
theorem tat_no (t : Int) (w : World) (h : mayB t = false) :
    Calls Tryd.prog 18 #[.int .i64 t] w fun e w' => e = .returned (.tuple #[civV 0 0 0 0 0 0, .int .i64 2]) ∧ Below w.heap.size w w' := by
  have hcall := fun W => may_any t W
  rw [h] at hcall
  unfold civV
  go_enter Tryd.func18, Tryd.ntmps18
  go_wp2_with ((go_at_call 35; refine (hcall _).mono ?_; rintro e _ ⟨rfl, rfl⟩))
  refine bodyPost_ret (v := .tuple #[.agg #[.int .i64 0, .int .i64 0, .int .i64 0, .int .i64 0, .int .i64 0, .int .i64 0], .int .i64 2]) (by simp [results, Tryd.results18, go_sem]) rfl ⟨rfl, ?_⟩
  exact (Below.refl _ _).alloc (Nat.le_refl _) _

set_option maxRecDepth 100000 in
set_option maxHeartbeats 2000000 in
theorem tat_yes (t : Int) (w : World) (h : mayB t = true) :
    Calls Tryd.prog 18 #[.int .i64 t] w fun e w' => e = .returned (.tuple #[civV (atY (tq t)) (atM (tq t)) (atD (tq t)) (tr t / 3600) (tr t % 3600 / 60) (tr t % 60), .int .i64 0]) ∧ Below w.heap.size w w' := by
  have hcall := fun W => may_any t W
  rw [h] at hcall
  obtain ⟨t0, t1⟩ := (mayB_iff t).1 h
  have hday : dayB (t / 86400) = true := by simp [dayB]; omega
  have hc2 : ∀ W : World, Calls Tryd.prog 44 #[.int .i64 (t / 86400)] W fun e w' => e = .returned (.tuple #[.agg #[.int .i64 (atY (t / 86400)), .int .i64 (atM (t / 86400)), .int .i64 (atD (t / 86400))], .int .i64 0]) ∧ ∃ u : Up W, w' = u.1 := fun W => Calls.toUp (dat_yes (t / 86400) W hday (by omega) (by omega))
  show Calls Tryd.prog 18 #[.int .i64 t] w fun e w' => e = .returned (.tuple #[.agg #[.int .i64 (atY (t / 86400)), .int .i64 (atM (t / 86400)), .int .i64 (atD (t / 86400)), .int .i64 (t % 86400 / 3600), .int .i64 (t % 86400 % 3600 / 60), .int .i64 (t % 86400 % 60)], .int .i64 0]) ∧ Below w.heap.size w w'
  clear h hday
  go_enter Tryd.func18, Tryd.ntmps18
  go_wp2_with (first | (go_at_call 35; refine (hcall _).mono ?_; rintro e _ ⟨rfl, rfl⟩) | (go_at_call 44; refine (hc2 _).mono ?_; rintro e _ ⟨rfl, u, rfl⟩; have hlt := u.size_lt))
  refine bodyPost_ret (v := .tuple #[.agg #[.int .i64 (atY (t / 86400)), .int .i64 (atM (t / 86400)), .int .i64 (atD (t / 86400)), .int .i64 (t % 86400 / 3600), .int .i64 (t % 86400 % 3600 / 60), .int .i64 (t % 86400 % 60)], .int .i64 0]) (by simp [results, Tryd.results18, go_sem, hlt]) rfl ⟨rfl, ?_⟩
  exact ((((((u.box.setCell (Nat.le_refl _) _).setCell (Nat.le_refl _) _).setCell (Nat.le_refl _) _).setCell (Nat.le_refl _) _).setCell (Nat.le_refl _) _).setCell (Nat.le_refl _) _).alloc (by simp; exact Nat.le_of_lt hlt) _
end Go.Proofs.YtpolhepihkbfnaaDoor
