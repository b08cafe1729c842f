/-
  The reference's time of a text (curfewref05): the walk, and that it answers as the code's does.
-/
import Derived.Test.YtpolhepihkbfnaaDoorRefText
import Derived.Test.YtpolhepihkbfnaaDoorTimesParse2
namespace Go.Proofs.YtpolhepihkbfnaaDoor
set_option linter.unusedVariables false
set_option linter.unusedSimpArgs false
open Go.RowKit
attribute [local go_sem] Up.new Up.newF

theorem bI_extract (s : ByteArray) (a c j : Nat) (hc : c ≤ s.size) (hj : a + j < c) : bI (s.extract a c) j = bI s (a + j) := by
  have h1 : j < (s.extract a c).size := by rw [ByteArray.size_extract]; omega
  have h2 : a + j < s.size := by omega
  unfold bI
  rw [dif_pos h1, dif_pos h2, ByteArray.getElem_extract]
theorem size_extract (s : ByteArray) (a c : Nat) (hc : c ≤ s.size) : (s.extract a c).size = c - a := by rw [ByteArray.size_extract]; omega
theorem fzn_congr {b b' : Nat → Int} {s s' : Nat} : ∀ k, (∀ j, j < k → b (s + j) = b' (s' + j)) → fzn b s k = fzn b' s' k
  | 0, _ => rfl
  | k + 1, h => by simp only [fzn]; rw [fzn_congr k (fun j hj => h j (by omega)), h k (by omega)]
/-- Are so many signs from a place on digits? -/
def digsAt (s : ByteArray) (a n : Nat) : Prop := ∀ j, j < n → 48 ≤ bI s (a + j) ∧ bI s (a + j) ≤ 57
theorem digB_extract (s : ByteArray) (a n : Nat) (h : a + n ≤ s.size) : digB (s.extract a (a + n)) (s.extract a (a + n)).size ↔ digsAt s a n := by
  have hs := size_extract s a (a + n) h
  rw [hs]
  refine ⟨fun hd j hj => ?_, fun hd j hj => ?_⟩
  · have := hd j (by omega); rwa [bI_extract s a (a + n) j h (by omega)] at this
  · rw [bI_extract s a (a + n) j h (by omega)]; exact hd j (by omega)

theorem rv_yes (s : ByteArray) (a n : Nat) (h : a + n ≤ s.size) (hn : n ≤ 4) (hd : digsAt s a n) (w : World) :
    Calls Tryd.prog 27 #[.string (s.extract a (a + n))] w fun e w' => e = .returned (.tuple #[.int .i64 (fzn (bI s) a n), .bool true]) ∧ w = w' := by
  have hs := size_extract s a (a + n) h
  have := rvalue_yes (s.extract a (a + n)) w (by omega) ((digB_extract s a n h).2 hd)
  have e : fzn (bI (s.extract a (a + n))) 0 (s.extract a (a + n)).size = fzn (bI s) a n := by
    rw [hs, show a + n - a = n by omega]
    exact fzn_congr n (fun j hj => by rw [Nat.zero_add]; exact bI_extract s a (a + n) j h (by omega))
  rwa [e] at this
theorem rv_no (s : ByteArray) (a n : Nat) (h : a + n ≤ s.size) (hn : n ≤ 4) (hd : ¬ digsAt s a n) (w : World) :
    Calls Tryd.prog 27 #[.string (s.extract a (a + n))] w fun e w' => e = .returned (.tuple #[.int .i64 0, .bool false]) ∧ w = w' := by
  have hs := size_extract s a (a + n) h
  exact rvalue_no (s.extract a (a + n)) w (by omega) (fun hx => hd ((digB_extract s a n h).1 hx))

theorem str_eq {a b : ByteArray} (h : a = b) : (a.toList == b.toList) = true := by rw [h]; simp
theorem str_ne {a b : ByteArray} (h : a ≠ b) : (a.toList == b.toList) = false := by
  rw [beq_eq_false_iff_ne]
  intro h2
  rw [ByteArray.toList_eq, ByteArray.toList_eq] at h2
  exact h (ba_ext h2)
def atsV : Value := .agg #[.int .i64 0, .int .i64 5, .int .i64 8, .int .i64 11, .int .i64 14, .int .i64 17]
/-- Are all six numbers' signs digits, the first k of them? -/
def digsUp (s : ByteArray) (k : Nat) : Prop := (0 < k → digsAt s 0 4) ∧ (1 < k → digsAt s 5 2) ∧ (2 < k → digsAt s 8 2) ∧ (3 < k → digsAt s 11 2) ∧ (4 < k → digsAt s 14 2) ∧ (5 < k → digsAt s 17 2)
def stL (s : ByteArray) : Nat → List Int
  | 0 => [0, 0, 0, 0, 0, 0]
  | 1 => [fzn (bI s) 0 4, 0, 0, 0, 0, 0]
  | 2 => [fzn (bI s) 0 4, fzn (bI s) 5 2, 0, 0, 0, 0]
  | 3 => [fzn (bI s) 0 4, fzn (bI s) 5 2, fzn (bI s) 8 2, 0, 0, 0]
  | 4 => [fzn (bI s) 0 4, fzn (bI s) 5 2, fzn (bI s) 8 2, fzn (bI s) 11 2, 0, 0]
  | 5 => [fzn (bI s) 0 4, fzn (bI s) 5 2, fzn (bI s) 8 2, fzn (bI s) 11 2, fzn (bI s) 14 2, 0]
  | _ => [fzn (bI s) 0 4, fzn (bI s) 5 2, fzn (bI s) 8 2, fzn (bI s) 11 2, fzn (bI s) 14 2, fzn (bI s) 17 2]
theorem stL_end (s : ByteArray) : stL s 6 = [nP s 0, nP s 1, nP s 2, nP s 3, nP s 4, nP s 5] := rfl

set_option maxRecDepth 100000 in
set_option maxHeartbeats 20000000 in
theorem rparse_19 (s : ByteArray) (w : World) (hs : s.size = 19) (T : Int) (B : Bool)
    (hyes : digsUp s 6 → civB (nP s 0) (nP s 1) (nP s 2) (nP s 3) (nP s 4) (nP s 5) = true → strOfNums (civL (nP s 0) (nP s 1) (nP s 2) (nP s 3) (nP s 4) (nP s 5)) = s → T = tofI (nP s 0) (nP s 1) (nP s 2) (nP s 3) (nP s 4) (nP s 5) ∧ B = true)
    (hno : ¬ (digsUp s 6 ∧ civB (nP s 0) (nP s 1) (nP s 2) (nP s 3) (nP s 4) (nP s 5) = true ∧ strOfNums (civL (nP s 0) (nP s 1) (nP s 2) (nP s 3) (nP s 4) (nP s 5)) = s) → T = 0 ∧ B = false) :
    Calls Tryd.prog 10 #[.string s] w fun e w' => e = .returned (.tuple #[.int .i64 T, .bool B]) ∧ Below w.heap.size w w' := by
  have HYES := Lib.hid hyes
  have HNO := Lib.hid hno
  clear hyes hno
  have i0 : ∀ w, (Instr.index 75 atsV (.int .i64 0)).run Tryd.prog w = .ok (.int .i64 0) w := fun _ => by kernel_rfl
  have i1 : ∀ w, (Instr.index 75 atsV (.int .i64 1)).run Tryd.prog w = .ok (.int .i64 5) w := fun _ => by kernel_rfl
  have i2 : ∀ w, (Instr.index 75 atsV (.int .i64 2)).run Tryd.prog w = .ok (.int .i64 8) w := fun _ => by kernel_rfl
  have i3 : ∀ w, (Instr.index 75 atsV (.int .i64 3)).run Tryd.prog w = .ok (.int .i64 11) w := fun _ => by kernel_rfl
  have i4 : ∀ w, (Instr.index 75 atsV (.int .i64 4)).run Tryd.prog w = .ok (.int .i64 14) w := fun _ => by kernel_rfl
  have i5 : ∀ w, (Instr.index 75 atsV (.int .i64 5)).run Tryd.prog w = .ok (.int .i64 17) w := fun _ => by kernel_rfl
  unfold atsV at i0 i1 i2 i3 i4 i5
  go_enter Tryd.func10, Tryd.ntmps10
  go_wp2_with fail
  go_loopw [15] (fun i wr => ∃ k : Nat, k ≤ 6 ∧ i = .int .i64 k ∧ Hid (digsUp s k) ∧ NumsAt w wr (stL s k)) (fun i _ => (6 - intOf i).toNat)
  case atStart => exact ⟨0, by omega, rfl, ⟨fun h => by omega, fun h => by omega, fun h => by omega, fun h => by omega, fun h => by omega, fun h => by omega⟩, by have := heap_alloc_new w (.cells #[.int .i64 0, .int .i64 0, .int .i64 0, .int .i64 0, .int .i64 0, .int .i64 0] 75); exact ⟨this, (Below.refl _ _).alloc (Nat.le_refl _) _⟩⟩
  case round =>
    obtain ⟨k, hk, rfl, hd, hn⟩ := hrel
    have hks : k = 0 ∨ k = 1 ∨ k = 2 ∨ k = 3 ∨ k = 4 ∨ k = 5 ∨ k = 6 := by omega
    rcases hks with rfl | rfl | rfl | rfl | rfl | rfl | rfl
    · have c := hn.cell 0 (by simp [stL])
      have f := hn.frozen 0
      have yes := fun h => rv_yes s 0 4 (by omega) (by omega) h
      have no := fun h => rv_no s 0 4 (by omega) (by omega) h
      simp only [Nat.reduceAdd, stL, List.getD_cons_zero, List.getD_cons_succ] at yes no c
      by_cases hx : digsAt s 0 4
      · have y := yes hx
        clear yes no
        go_wp2_with ((go_at_call 27; refine (y _).mono ?_; rintro e _ ⟨rfl, rfl⟩))
        go_roundw
        case rel => exact ⟨1, by omega, rfl, ⟨fun _ => hx, fun h => by omega, fun h => by omega, fun h => by omega, fun h => by omega, fun h => by omega⟩, hn.set 0 _⟩
        case measure => simp [intOf]
      · have y := no hx
        clear yes no
        go_wp2_with ((go_at_call 27; refine (y _).mono ?_; rintro e _ ⟨rfl, rfl⟩))
        obtain ⟨rfl, rfl⟩ := HNO.out (fun hh => hx (hh.1.1 (by omega)))
        go_ret2
        exact ⟨rfl, hn.2⟩
    · have c := hn.cell 1 (by simp [stL])
      have f := hn.frozen 1
      have yes := fun h => rv_yes s 5 2 (by omega) (by omega) h
      have no := fun h => rv_no s 5 2 (by omega) (by omega) h
      simp only [Nat.reduceAdd, stL, List.getD_cons_zero, List.getD_cons_succ] at yes no c
      by_cases hx : digsAt s 5 2
      · have y := yes hx
        clear yes no
        go_wp2_with ((go_at_call 27; refine (y _).mono ?_; rintro e _ ⟨rfl, rfl⟩))
        go_roundw
        case rel => exact ⟨2, by omega, rfl, ⟨fun _ => hd.out.1 (by omega), fun _ => hx, fun h => by omega, fun h => by omega, fun h => by omega, fun h => by omega⟩, hn.set 1 _⟩
        case measure => simp [intOf]
      · have y := no hx
        clear yes no
        go_wp2_with ((go_at_call 27; refine (y _).mono ?_; rintro e _ ⟨rfl, rfl⟩))
        obtain ⟨rfl, rfl⟩ := HNO.out (fun hh => hx (hh.1.2.1 (by omega)))
        go_ret2
        exact ⟨rfl, hn.2⟩
    · have c := hn.cell 2 (by simp [stL])
      have f := hn.frozen 2
      have yes := fun h => rv_yes s 8 2 (by omega) (by omega) h
      have no := fun h => rv_no s 8 2 (by omega) (by omega) h
      simp only [Nat.reduceAdd, stL, List.getD_cons_zero, List.getD_cons_succ] at yes no c
      by_cases hx : digsAt s 8 2
      · have y := yes hx
        clear yes no
        go_wp2_with ((go_at_call 27; refine (y _).mono ?_; rintro e _ ⟨rfl, rfl⟩))
        go_roundw
        case rel => exact ⟨3, by omega, rfl, ⟨fun _ => hd.out.1 (by omega), fun _ => hd.out.2.1 (by omega), fun _ => hx, fun h => by omega, fun h => by omega, fun h => by omega⟩, hn.set 2 _⟩
        case measure => simp [intOf]
      · have y := no hx
        clear yes no
        go_wp2_with ((go_at_call 27; refine (y _).mono ?_; rintro e _ ⟨rfl, rfl⟩))
        obtain ⟨rfl, rfl⟩ := HNO.out (fun hh => hx (hh.1.2.2.1 (by omega)))
        go_ret2
        exact ⟨rfl, hn.2⟩
    · have c := hn.cell 3 (by simp [stL])
      have f := hn.frozen 3
      have yes := fun h => rv_yes s 11 2 (by omega) (by omega) h
      have no := fun h => rv_no s 11 2 (by omega) (by omega) h
      simp only [Nat.reduceAdd, stL, List.getD_cons_zero, List.getD_cons_succ] at yes no c
      by_cases hx : digsAt s 11 2
      · have y := yes hx
        clear yes no
        go_wp2_with ((go_at_call 27; refine (y _).mono ?_; rintro e _ ⟨rfl, rfl⟩))
        go_roundw
        case rel => exact ⟨4, by omega, rfl, ⟨fun _ => hd.out.1 (by omega), fun _ => hd.out.2.1 (by omega), fun _ => hd.out.2.2.1 (by omega), fun _ => hx, fun h => by omega, fun h => by omega⟩, hn.set 3 _⟩
        case measure => simp [intOf]
      · have y := no hx
        clear yes no
        go_wp2_with ((go_at_call 27; refine (y _).mono ?_; rintro e _ ⟨rfl, rfl⟩))
        obtain ⟨rfl, rfl⟩ := HNO.out (fun hh => hx (hh.1.2.2.2.1 (by omega)))
        go_ret2
        exact ⟨rfl, hn.2⟩
    · have c := hn.cell 4 (by simp [stL])
      have f := hn.frozen 4
      have yes := fun h => rv_yes s 14 2 (by omega) (by omega) h
      have no := fun h => rv_no s 14 2 (by omega) (by omega) h
      simp only [Nat.reduceAdd, stL, List.getD_cons_zero, List.getD_cons_succ] at yes no c
      by_cases hx : digsAt s 14 2
      · have y := yes hx
        clear yes no
        go_wp2_with ((go_at_call 27; refine (y _).mono ?_; rintro e _ ⟨rfl, rfl⟩))
        go_roundw
        case rel => exact ⟨5, by omega, rfl, ⟨fun _ => hd.out.1 (by omega), fun _ => hd.out.2.1 (by omega), fun _ => hd.out.2.2.1 (by omega), fun _ => hd.out.2.2.2.1 (by omega), fun _ => hx, fun h => by omega⟩, hn.set 4 _⟩
        case measure => simp [intOf]
      · have y := no hx
        clear yes no
        go_wp2_with ((go_at_call 27; refine (y _).mono ?_; rintro e _ ⟨rfl, rfl⟩))
        obtain ⟨rfl, rfl⟩ := HNO.out (fun hh => hx (hh.1.2.2.2.2.1 (by omega)))
        go_ret2
        exact ⟨rfl, hn.2⟩
    · have c := hn.cell 5 (by simp [stL])
      have f := hn.frozen 5
      have yes := fun h => rv_yes s 17 2 (by omega) (by omega) h
      have no := fun h => rv_no s 17 2 (by omega) (by omega) h
      simp only [Nat.reduceAdd, stL, List.getD_cons_zero, List.getD_cons_succ] at yes no c
      by_cases hx : digsAt s 17 2
      · have y := yes hx
        clear yes no
        go_wp2_with ((go_at_call 27; refine (y _).mono ?_; rintro e _ ⟨rfl, rfl⟩))
        go_roundw
        case rel => exact ⟨6, by omega, rfl, ⟨fun _ => hd.out.1 (by omega), fun _ => hd.out.2.1 (by omega), fun _ => hd.out.2.2.1 (by omega), fun _ => hd.out.2.2.2.1 (by omega), fun _ => hd.out.2.2.2.2.1 (by omega), fun _ => hx⟩, hn.set 5 _⟩
        case measure => simp [intOf]
      · have y := no hx
        clear yes no
        go_wp2_with ((go_at_call 27; refine (y _).mono ?_; rintro e _ ⟨rfl, rfl⟩))
        obtain ⟨rfl, rfl⟩ := HNO.out (fun hh => hx (hh.1.2.2.2.2.2 (by omega)))
        go_ret2
        exact ⟨rfl, hn.2⟩
    · rw [show ((6 : Nat) : Int) = 6 from rfl, stL_end] at *
      have hlt := hn.lt
      have c0 : wr.cell? ⟨w.heap.size, 0, none⟩ = some (.int .i64 (nP s 0)) := hn.cell 0 (by simp)
      have c1 : wr.cell? ⟨w.heap.size, 1, none⟩ = some (.int .i64 (nP s 1)) := hn.cell 1 (by simp)
      have c2 : wr.cell? ⟨w.heap.size, 2, none⟩ = some (.int .i64 (nP s 2)) := hn.cell 2 (by simp)
      have c3 : wr.cell? ⟨w.heap.size, 3, none⟩ = some (.int .i64 (nP s 3)) := hn.cell 3 (by simp)
      have c4 : wr.cell? ⟨w.heap.size, 4, none⟩ = some (.int .i64 (nP s 4)) := hn.cell 4 (by simp)
      have c5 : wr.cell? ⟨w.heap.size, 5, none⟩ = some (.int .i64 (nP s 5)) := hn.cell 5 (by simp)
      generalize nP s 0 = y at *
      generalize nP s 1 = m at *
      generalize nP s 2 = d at *
      generalize nP s 3 = hh at *
      generalize nP s 4 = mi at *
      generalize nP s 5 = ss at *
      have hright := fun W => Calls.toUp (rtright_any y m d hh mi ss W)
      have HB : ∀ o1 (u : Up (wr.alloc o1)), Below w.heap.size w u.1 := fun o1 u => (hn.2.alloc (Nat.le_of_lt hlt) _).trans (u.2.mono (by simp; omega))
      cases hciv : civB y m d hh mi ss
      · simp only [hciv] at hright
        have HC := Lib.hid hciv
        unfold civV at hright
        clear hciv i0 i1 i2 i3 i4 i5
        go_wp2_with ((go_at_call 28; refine (hright _).mono ?_; rintro e _ ⟨rfl, u, rfl⟩))
        obtain ⟨rfl, rfl⟩ := HNO.out (fun hh => by rw [HC.out] at hh; exact absurd hh.2.1 (by decide))
        go_ret2
        exact ⟨rfl, HB _ u⟩
      · obtain ⟨k0, k1, k2, k3, k4, k5, k6⟩ := of_at hciv
        have hof := fun {W : World} (u : Up W) => Calls.up_of (rtof_any y m d hh mi ss u.1 hciv)
        have htx := fun {W : World} (u : Up W) => Calls.up_of (rtext_any (tofI y m d hh mi ss) u.1 k0)
        simp only [hciv] at hright
        simp only [k1, k2, k3, k4, k5, k6] at htx
        have HC := Lib.hid hciv
        unfold civV at hright hof
        clear hciv k0 k1 k2 k3 k4 k5 k6 i0 i1 i2 i3 i4 i5
        obtain ⟨X, hX⟩ : ∃ X, X = strOfNums (civL y m d hh mi ss) := ⟨_, rfl⟩
        rw [← hX] at htx
        have HX := Lib.hid hX
        clear hX
        by_cases he : X = s
        · have HT := HYES.out hd.out HC.out (HX.out.symm.trans he)
          have HE := Lib.hid he
          obtain ⟨rfl, rfl⟩ := HT
          have q1 : (X.toList == s.toList) = true := str_eq he
          clear he
          go_wp2_with (first | (go_at_call 28; refine (hright _).mono ?_; rintro e _ ⟨rfl, u, rfl⟩) | (go_at_call 29; refine (hof u).mono ?_; rintro e _ ⟨rfl, u, rfl⟩) | (go_at_call 8; refine (htx u).mono ?_; rintro e _ ⟨rfl, u, rfl⟩))
          go_ret2
          exact ⟨rfl, HB _ u⟩
        · obtain ⟨rfl, rfl⟩ := HNO.out (fun hh => he (HX.out.trans hh.2.2))
          have q1 : (X.toList == s.toList) = false := str_ne he
          have HE := Lib.hid he
          clear he
          go_wp2_with (first | (go_at_call 28; refine (hright _).mono ?_; rintro e _ ⟨rfl, u, rfl⟩) | (go_at_call 29; refine (hof u).mono ?_; rintro e _ ⟨rfl, u, rfl⟩) | (go_at_call 8; refine (htx u).mono ?_; rintro e _ ⟨rfl, u, rfl⟩))
          go_ret2
          exact ⟨rfl, HB _ u⟩
end Go.Proofs.YtpolhepihkbfnaaDoor
