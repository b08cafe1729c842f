/-
  The time of a text (package times): the loop over its signs.
-/
import Derived.Test.YtpolhepihkbfnaaDoorTimesText
import Derived.Deep.CutBlock
import Derived.Deep.DeepCutAuto
import Derived.ChangeAlike
namespace Go.Proofs.YtpolhepihkbfnaaDoor
set_option linter.unusedVariables false
set_option linter.unusedSimpArgs false
open Go.RowKit
attribute [local go_sem] Up.new Up.newF

/-- A byte of a text, as a number. -/
def bI (s : ByteArray) (j : Nat) : Int := if h : j < s.size then ((s[j]'h).toNat : Int) else 0
/-- The form's sign at a place. -/
def fC (j : Nat) : Nat := [48, 48, 48, 48, 45, 48, 48, 45, 48, 48, 32, 48, 48, 58, 48, 48, 58, 48, 48].getD j 48
/-- Does the sign at place j fit the form? -/
def okP (b : Nat → Int) (j : Nat) : Prop := if fC j = 48 then 48 ≤ b j ∧ b j ≤ 57 else b j = fC j
/-- The number of so many digits from a place on. -/
def fzn (b : Nat → Int) (s : Nat) : Nat → Int | 0 => 0 | k + 1 => 10 * fzn b s k + (b (s + k) - 48)
/-- How many numbers are through ahead of a place. -/
def fkk (i : Nat) : Nat := if i < 5 then 0 else if i < 8 then 1 else if i < 11 then 2 else if i < 14 then 3 else if i < 17 then 4 else 5
def numsL (b : Nat → Int) (i : Nat) : List Int :=
  [fzn b 0 (min i 4), fzn b 5 (min (i - 5) 2), fzn b 8 (min (i - 8) 2), fzn b 11 (min (i - 11) 2), fzn b 14 (min (i - 14) 2), fzn b 17 (min (i - 17) 2)]
theorem fzn_bd (b : Nat → Int) (s k : Nat) (h : ∀ j, j < k → 48 ≤ b (s + j) ∧ b (s + j) ≤ 57) (hk : k ≤ 4) : 0 ≤ fzn b s k ∧ fzn b s k ≤ 9999 ∧ (k ≤ 3 → fzn b s k ≤ 999) := by
  match k, hk with
  | 0, _ => simp [fzn]
  | 1, _ => have h0 := h 0 (by omega); simp only [fzn]; omega
  | 2, _ => have h0 := h 0 (by omega); have h1 := h 1 (by omega); simp only [fzn]; omega
  | 3, _ => have h0 := h 0 (by omega); have h1 := h 1 (by omega); have h2 := h 2 (by omega); simp only [fzn]; omega
  | 4, _ => have h0 := h 0 (by omega); have h1 := h 1 (by omega); have h2 := h 2 (by omega); have h3 := h 3 (by omega); simp only [fzn]; omega
theorem nineteen {i : Nat} (h : i < 19) : i = 0 ∨ i = 1 ∨ i = 2 ∨ i = 3 ∨ i = 4 ∨ i = 5 ∨ i = 6 ∨ i = 7 ∨ i = 8 ∨ i = 9 ∨ i = 10 ∨ i = 11 ∨ i = 12 ∨ i = 13 ∨ i = 14 ∨ i = 15 ∨ i = 16 ∨ i = 17 ∨ i = 18 := by omega
theorem fkk_lt (i : Nat) : fkk i < 6 := by unfold fkk; repeat (first | omega | split)
theorem numsL_len (b : Nat → Int) (i : Nat) : (numsL b i).length = 6 := rfl
theorem numsL_dig (b : Nat → Int) {i : Nat} (h : i < 19) (hc : fC i = 48) : numsL b (i + 1) = (numsL b i).set (fkk i) (10 * (numsL b i).getD (fkk i) 0 + (b i - 48)) ∧ fkk (i + 1) = fkk i := by
  rcases nineteen h with rfl | rfl | rfl | rfl | rfl | rfl | rfl | rfl | rfl | rfl | rfl | rfl | rfl | rfl | rfl | rfl | rfl | rfl | rfl <;> first | (exfalso; revert hc; decide) | exact ⟨rfl, rfl⟩
theorem numsL_sep (b : Nat → Int) {i : Nat} (h : i < 19) (hc : ¬ fC i = 48) : numsL b (i + 1) = numsL b i ∧ fkk (i + 1) = fkk i + 1 := by
  rcases nineteen h with rfl | rfl | rfl | rfl | rfl | rfl | rfl | rfl | rfl | rfl | rfl | rfl | rfl | rfl | rfl | rfl | rfl | rfl | rfl <;> first | (exfalso; revert hc; decide) | exact ⟨rfl, rfl⟩
theorem fC_val {i : Nat} (h : i < 19) (hc : ¬ fC i = 48) : fC i = 45 ∨ fC i = 32 ∨ fC i = 58 := by
  rcases nineteen h with rfl | rfl | rfl | rfl | rfl | rfl | rfl | rfl | rfl | rfl | rfl | rfl | rfl | rfl | rfl | rfl | rfl | rfl | rfl <;> revert hc <;> decide
theorem form_at {i : Nat} (h : i < 19) : ((⟨#[48, 48, 48, 48, 45, 48, 48, 45, 48, 48, 32, 48, 48, 58, 48, 48, 58, 48, 48]⟩ : ByteArray)[i]'h).toNat = fC i := by
  show ((#[48, 48, 48, 48, 45, 48, 48, 45, 48, 48, 32, 48, 48, 58, 48, 48, 58, 48, 48] : Array UInt8)[i]'h).toNat = fC i
  rcases nineteen h with rfl | rfl | rfl | rfl | rfl | rfl | rfl | rfl | rfl | rfl | rfl | rfl | rfl | rfl | rfl | rfl | rfl | rfl | rfl <;> simp [fC]
theorem numsL_at (b : Nat → Int) {i : Nat} (h : i < 19) (hc : fC i = 48) : ∃ s k, (numsL b i).getD (fkk i) 0 = fzn b s k ∧ s + k = i ∧ k ≤ 3 ∧ ∀ j, j < k → fC (s + j) = 48 := by
  rcases nineteen h with rfl | rfl | rfl | rfl | rfl | rfl | rfl | rfl | rfl | rfl | rfl | rfl | rfl | rfl | rfl | rfl | rfl | rfl | rfl
  all_goals first
    | (exfalso; revert hc; decide)
    | exact ⟨0, 0, rfl, rfl, by omega, by decide⟩
    | exact ⟨0, 1, rfl, rfl, by omega, by decide⟩
    | exact ⟨0, 2, rfl, rfl, by omega, by decide⟩
    | exact ⟨0, 3, rfl, rfl, by omega, by decide⟩
    | exact ⟨5, 0, rfl, rfl, by omega, by decide⟩
    | exact ⟨5, 1, rfl, rfl, by omega, by decide⟩
    | exact ⟨8, 0, rfl, rfl, by omega, by decide⟩
    | exact ⟨8, 1, rfl, rfl, by omega, by decide⟩
    | exact ⟨11, 0, rfl, rfl, by omega, by decide⟩
    | exact ⟨11, 1, rfl, rfl, by omega, by decide⟩
    | exact ⟨14, 0, rfl, rfl, by omega, by decide⟩
    | exact ⟨14, 1, rfl, rfl, by omega, by decide⟩
    | exact ⟨17, 0, rfl, rfl, by omega, by decide⟩
    | exact ⟨17, 1, rfl, rfl, by omega, by decide⟩
theorem numsL_bd (b : Nat → Int) {i : Nat} (h : i < 19) (hok : ∀ j, j < i → okP b j) (hc : fC i = 48) : 0 ≤ (numsL b i).getD (fkk i) 0 ∧ (numsL b i).getD (fkk i) 0 ≤ 999 := by
  obtain ⟨s, k, e, hsk, hk, hf⟩ := numsL_at b h hc
  rw [e]
  have hx := fzn_bd b s k (fun j hj => by have := hok (s + j) (by omega); unfold okP at this; rwa [if_pos (hf j hj)] at this) (by omega)
  exact ⟨hx.1, hx.2.2 hk⟩
theorem okUp_next {b : Nat → Int} {i : Nat} (h : Hid (∀ j, j < i → okP b j)) (hi : okP b i) : Hid (∀ j, j < i + 1 → okP b j) := fun j hj => by
  rcases Nat.lt_or_ge j i with hlt | hge
  · exact h.out j hlt
  · obtain rfl : j = i := by omega
    exact hi
/-- The numbers' array in the first new block. -/
def NumsAt (w wr : World) (L : List Int) : Prop := wr.heap[w.heap.size]? = some (.cells (L.map (Value.int .i64)).toArray 75 (0, 0)) ∧ Below w.heap.size w wr
end Go.Proofs.YtpolhepihkbfnaaDoor
