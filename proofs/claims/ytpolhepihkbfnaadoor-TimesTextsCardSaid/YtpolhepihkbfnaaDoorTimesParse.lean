/-
  The time of a text (package times): the walk.
-/
import Derived.Test.YtpolhepihkbfnaaDoorParseLaw
namespace Go.Proofs.YtpolhepihkbfnaaDoor
set_option linter.unusedVariables false
set_option linter.unusedSimpArgs false
open Go.RowKit
attribute [local go_sem] Up.new Up.newF

theorem of_at {y m d hh mi ss : Int} (h : civB y m d hh mi ss = true) :
    mayB (tofI y m d hh mi ss) = true ∧ atY (tq (tofI y m d hh mi ss)) = y ∧ atM (tq (tofI y m d hh mi ss)) = m ∧ atD (tq (tofI y m d hh mi ss)) = d ∧
      tr (tofI y m d hh mi ss) / 3600 = hh ∧ tr (tofI y m d hh mi ss) % 3600 / 60 = mi ∧ tr (tofI y m d hh mi ss) % 60 = ss := by
  unfold civB at h
  simp only [Bool.and_eq_true] at h
  obtain ⟨hd, hx⟩ := h
  obtain ⟨h0, h1, h2, h3, h4, h5⟩ := (hmsB_iff _ _ _).1 hx
  have hr := ofI_range hd
  have e1 : tq (tofI y m d hh mi ss) = ofI y m d := by unfold tq tofI; omega
  have e2 : tr (tofI y m d hh mi ss) = hh * 3600 + mi * 60 + ss := by unfold tr tofI; omega
  have ha := at_right (ofI y m d) hr.1 hr.2
  have hu := date_one ha.1 hd ha.2
  rw [e1, e2]
  refine ⟨(mayB_iff _).2 (by unfold tofI; omega), hu.1, hu.2.1, hu.2.2, by omega, by omega, by omega⟩
theorem may_tofN (y m d hh mi ss : Int) : mayB (tofN y m d hh mi ss) = true := by
  unfold tofN
  by_cases h : civB y m d hh mi ss = true
  · rw [if_pos h]; exact (of_at h).1
  · rw [if_neg h]; decide
/-- The result of a text. -/
def parseB (s : ByteArray) (y m d hh mi ss : Int) : Prop := (∀ j, j < 19 → okP (bI s) j) ∧ civB y m d hh mi ss = true

theorem NumsAt.cell {w wr : World} {L : List Int} (h : NumsAt w wr L) (k : Nat) (hk : k < L.length) : wr.cell? ⟨w.heap.size, k, none⟩ = some (.int .i64 (L.getD k 0)) := by
  rw [blk_cell h.1 k]
  simp [List.getElem?_eq_getElem hk]
theorem NumsAt.frozen {w wr : World} {L : List Int} (h : NumsAt w wr L) (k : Nat) : wr.frozen? ⟨w.heap.size, k, none⟩ = false := blk_frozen h.1 k
theorem NumsAt.lt {w wr : World} {L : List Int} (h : NumsAt w wr L) : w.heap.size < wr.heap.size := by
  rcases Nat.lt_or_ge w.heap.size wr.heap.size with hlt | hge
  · exact hlt
  · have := h.1; rw [Array.getElem?_eq_none hge] at this; cases this
theorem NumsAt.up {w wr : World} {L : List Int} (h : NumsAt w wr L) (u : Up wr) : NumsAt w u.1 L := ⟨(u.2.block _ h.lt).trans h.1, h.2.trans (u.2.mono (Nat.le_of_lt h.lt))⟩
theorem NumsAt.drew {w wr : World} {L : List Int} (h : NumsAt w wr L) : NumsAt w wr.drew L := ⟨h.1, h.2.drew⟩
theorem NumsAt.set {w wr : World} {L : List Int} (h : NumsAt w wr L) (k : Nat) (v : Int) : NumsAt w (wr.setCell ⟨w.heap.size, k, none⟩ (.int .i64 v)) (L.set k v) := by
  refine ⟨?_, h.2.setCell (Nat.le_refl _) _⟩
  have := h.1
  simp [World.setCell, Array.getElem?_modify, this]

set_option maxRecDepth 100000 in
set_option maxHeartbeats 20000000 in
theorem parse_19 (s : ByteArray) (w : World) (hs : s.size = 19) (hT : LongTab w) (P E : Int)
    (hyes : ∀ y m d hh mi ss, numsL (bI s) 19 = [y, m, d, hh, mi, ss] → (∀ j, j < 19 → okP (bI s) j) → civB y m d hh mi ss = true → P = tofI y m d hh mi ss ∧ E = 0)
    (hno : ∀ y m d hh mi ss, numsL (bI s) 19 = [y, m, d, hh, mi, ss] → ¬ ((∀ j, j < 19 → okP (bI s) j) ∧ civB y m d hh mi ss = true) → P = 0 ∧ E = 151) :
    Calls Tryd.prog 9 #[.string s] w fun e w' => e = .returned (.tuple #[.int .i64 P, .int .i64 E]) ∧ Below w.heap.size w w' := by
  have HYES := Lib.hid hyes
  have HNO := Lib.hid hno
  clear hyes hno
  go_enter Tryd.func9, Tryd.ntmps9
  go_wp2_with fail
  go_step3
  go_wp2_with fail
  go_step3
  go_upto_block 0 with fail
  go_cut [6] (fun ok wx => (ok = .bool true ∧ Hid (∀ j, j < 19 → okP (bI s) j) ∧ NumsAt w wx (numsL (bI s) 19)) ∨
    (ok = .bool false ∧ Hid (¬ ∀ j, j < 19 → okP (bI s) j) ∧ ∃ L : List Int, L.length = 6 ∧ NumsAt w wx L))
  case first =>
    go_wp2_with fail
    go_loopw [5, 6, 7] (fun k ok i wr => ∃ j : Nat, j ≤ 19 ∧ k = .int .i64 (fkk j) ∧ ok = .bool true ∧ i = .int .i64 j ∧ Hid (∀ l, l < j → okP (bI s) l) ∧ NumsAt w wr (numsL (bI s) j)) (fun _ _ i _ => (19 - intOf i).toNat)
    case atStart => exact ⟨0, by omega, rfl, rfl, rfl, fun j hj => by omega, by have := heap_alloc_new w (.cells #[.int .i64 0, .int .i64 0, .int .i64 0, .int .i64 0, .int .i64 0, .int .i64 0] 75); exact ⟨this, (Below.refl _ _).alloc (Nat.le_refl _) _⟩⟩
    case round =>
    obtain ⟨j, hj, rfl, rfl, rfl, hok, hn⟩ := hrel
    by_cases hlt : j < 19
    · have hls : j < s.size := by omega
      have hc := hn.cell (fkk j) (by have := fkk_lt j; simpa [numsL_len] using this)
      have hf := hn.frozen (fkk j)
      have hk6 := fkk_lt j
      have hk6' : (fkk j : Int) < 6 := by omega
      have hform := form_at hlt
      obtain ⟨x, hx⟩ : ∃ x : Nat, (s[j]'hls).toNat = x := ⟨_, rfl⟩
      have HX : Hid (bI s j = x) := by unfold Hid bI; rw [dif_pos hls, hx]
      by_cases h48 : fC j = 48
      · rw [h48] at hform
        have hbd := numsL_bd (bI s) hlt hok.out h48
        have H48 := Lib.hid h48
        obtain ⟨hL, hK⟩ := numsL_dig (bI s) hlt h48
        generalize hv : (numsL (bI s) j).getD (fkk j) 0 = v at hc hbd hL
        have HV := Lib.hid hv
        have HL := Lib.hid hL
        have HK := Lib.hid hK
        clear hv hL hK
        by_cases hd : 48 ≤ x ∧ x ≤ 57
        · have h1 : 48 ≤ (x : Int) := by omega
          have h2 : (x : Int) ≤ 57 := by omega
          clear hd h48
          go_wp2_with fail
          go_region
          have hn' := (hn.set (fkk j) (10 * v + (x - 48))).drew
          clear hc hf
          go_wp2_with fail
          go_roundw
          case rel => exact ⟨j + 1, by omega, by rw [HK.out], rfl, by go_num, okUp_next hok (by unfold okP; rw [if_pos H48.out, HX.out]; omega), by rw [HL.out, HX.out]; exact hn'⟩
          case measure => simp [intOf]; omega
        · have hne : ((x : Int) == 48) = false := by simp; omega
          have HB := Lib.hid hd
          clear h48
          go_wp2_with fail
          all_goals
            refine wp_up ?_
            intro u
            refine wp_region_upu (by kernel_rfl) (by kernel_rfl) ?_
            repeat (go_big_quiet_step (fail))
            refine wpQuiet_nil ?_
            rintro _ ⟨u, rfl⟩
            go_wp2_with fail
            go_meet
            case rel => exact .inr ⟨rfl, fun hh => by have := hh j hlt; unfold okP at this; rw [if_pos H48.out, HX.out] at this; exact HB.out (by omega), _, numsL_len _ _, hn.up u⟩
      · obtain ⟨hL, hK⟩ := numsL_sep (bI s) hlt h48
        have HN := Lib.hid h48
        have HL := Lib.hid hL
        have HK := Lib.hid hK
        have hv := fC_val hlt h48
        have HC : Hid (fC j = fC j) := rfl
        clear hL hK h48
        generalize hcc : fC j = c at hform hv HC
        have HCC := Lib.hid hcc
        clear hcc HC
        by_cases hd : x = c
        · subst hd
          rcases hv with rfl | rfl | rfl
          all_goals
            go_wp2_with fail
            refine wp_up ?_
            intro u
            refine wp_region_upu (by kernel_rfl) (by kernel_rfl) ?_
            repeat (go_big_quiet_step (fail))
            refine wpQuiet_nil ?_
            rintro _ ⟨u, rfl⟩
            go_wp2_with fail
            go_roundw
            case rel => exact ⟨j + 1, by omega, by rw [HK.out]; go_num, rfl, by go_num, okUp_next hok (by unfold okP; rw [if_neg HN.out, HX.out, HCC.out]), by rw [HL.out]; exact hn.up u⟩
            case measure => simp [intOf]; omega
        · have hne : ((x : Int) == (c : Int)) = false := by simp; omega
          have HB := Lib.hid hd
          clear hd
          rcases hv with rfl | rfl | rfl
          all_goals
            go_wp2_with fail
          all_goals
            refine wp_up ?_
            intro u
            refine wp_region_upu (by kernel_rfl) (by kernel_rfl) ?_
            repeat (go_big_quiet_step (fail))
            refine wpQuiet_nil ?_
            rintro _ ⟨u, rfl⟩
            go_wp2_with fail
            go_meet
            case rel => exact .inr ⟨rfl, fun hh => by have := hh j hlt; unfold okP at this; rw [if_neg HN.out, HX.out, HCC.out] at this; exact HB.out (by omega), _, numsL_len _ _, hn.up u⟩
    · obtain rfl : j = 19 := by omega
      go_wp2_with fail
      go_meet
      case rel => exact .inl ⟨rfl, hok, hn⟩
  case rest =>
    rcases hcut with ⟨rfl, hok, hn⟩ | ⟨rfl, hbad, L, hL, hn⟩
    · obtain ⟨y, m, d, hh, mi, ss, hl⟩ : ∃ y m d hh mi ss, numsL (bI s) 19 = [y, m, d, hh, mi, ss] := ⟨_, _, _, _, _, _, rfl⟩
      rw [hl] at hn
      have HL := Lib.hid hl
      clear hl
      have hlt := hn.lt
      have c0 : wc.cell? ⟨w.heap.size, 0, none⟩ = some (.int .i64 y) := hn.cell 0 (by simp)
      have c1 : wc.cell? ⟨w.heap.size, 1, none⟩ = some (.int .i64 m) := hn.cell 1 (by simp)
      have c2 : wc.cell? ⟨w.heap.size, 2, none⟩ = some (.int .i64 d) := hn.cell 2 (by simp)
      have c3 : wc.cell? ⟨w.heap.size, 3, none⟩ = some (.int .i64 hh) := hn.cell 3 (by simp)
      have c4 : wc.cell? ⟨w.heap.size, 4, none⟩ = some (.int .i64 mi) := hn.cell 4 (by simp)
      have c5 : wc.cell? ⟨w.heap.size, 5, none⟩ = some (.int .i64 ss) := hn.cell 5 (by simp)
      have hwT := hT.below hn.2
      have HB : ∀ o1 (u : Up (wc.alloc o1)) o2, Below w.heap.size w (u.1.alloc o2) := fun o1 u o2 => ((hn.2.alloc (Nat.le_of_lt hlt) _).trans (u.2.mono (by simp; omega))).alloc (by have := u.2.size; simp at this; omega) _
      have hT1 : ∀ o, LongTab (wc.alloc o) := fun o => hwT.below ((Below.refl _ _).alloc (Nat.le_refl _) _)
      have hof := fun o => Calls.toUp (tof_any y m d hh mi ss (wc.alloc o) (hT1 o))
      have hat := fun {W : World} (u : Up W) => Calls.up_of (tat_yes (tofN y m d hh mi ss) u.1 (may_tofN y m d hh mi ss))
      cases hciv : civB y m d hh mi ss
      · have hN : tofN y m d hh mi ss = 0 := by unfold tofN; rw [if_neg (by rw [hciv]; decide)]
        have HC := Lib.hid hciv
        simp only [hciv, okI_false, hN] at hof hat
        unfold civV at hof hat
        clear hciv hN
        go_wp2_with (first | (go_at_call 16; refine (hof _).mono ?_; rintro e _ ⟨rfl, u, rfl⟩) | (go_at_call 18; refine (hat u).mono ?_; rintro e _ ⟨rfl, u, rfl⟩; have hlt2 := u.size_lt))
        obtain ⟨rfl, rfl⟩ := HNO.out y m d hh mi ss HL.out (fun hh => by rw [HC.out] at hh; exact absurd hh.2 (by decide))
        rw [Exit.noGoto_ret]
        go_ret2
        exact ⟨rfl, HB _ u _⟩
      · have hN : tofN y m d hh mi ss = tofI y m d hh mi ss := by unfold tofN; rw [if_pos hciv]
        have HC := Lib.hid hciv
        obtain ⟨k0, k1, k2, k3, k4, k5, k6⟩ := of_at hciv
        simp only [hciv, okI_true, hN, k1, k2, k3, k4, k5, k6] at hof hat
        unfold civV at hof hat
        clear hciv hN k0 k1 k2 k3 k4 k5 k6
        go_wp2_with (first | (go_at_call 16; refine (hof _).mono ?_; rintro e _ ⟨rfl, u, rfl⟩) | (go_at_call 18; refine (hat u).mono ?_; rintro e _ ⟨rfl, u, rfl⟩; have hlt2 := u.size_lt))
        obtain ⟨rfl, rfl⟩ := HYES.out y m d hh mi ss HL.out hok.out HC.out
        rw [Exit.noGoto_ret]
        go_ret2
        exact ⟨rfl, HB _ u _⟩
    · obtain ⟨y, m, d, hh, mi, ss, rfl⟩ : ∃ y m d hh mi ss, L = [y, m, d, hh, mi, ss] := by
        match L, hL with
        | [y, m, d, hh, mi, ss], _ => exact ⟨_, _, _, _, _, _, rfl⟩
      have hlt := hn.lt
      have c0 : wc.cell? ⟨w.heap.size, 0, none⟩ = some (.int .i64 y) := hn.cell 0 (by simp)
      have c1 : wc.cell? ⟨w.heap.size, 1, none⟩ = some (.int .i64 m) := hn.cell 1 (by simp)
      have c2 : wc.cell? ⟨w.heap.size, 2, none⟩ = some (.int .i64 d) := hn.cell 2 (by simp)
      have c3 : wc.cell? ⟨w.heap.size, 3, none⟩ = some (.int .i64 hh) := hn.cell 3 (by simp)
      have c4 : wc.cell? ⟨w.heap.size, 4, none⟩ = some (.int .i64 mi) := hn.cell 4 (by simp)
      have c5 : wc.cell? ⟨w.heap.size, 5, none⟩ = some (.int .i64 ss) := hn.cell 5 (by simp)
      have hwT := hT.below hn.2
      have HB : ∀ o1 (u : Up (wc.alloc o1)) o2, Below w.heap.size w (u.1.alloc o2) := fun o1 u o2 => ((hn.2.alloc (Nat.le_of_lt hlt) _).trans (u.2.mono (by simp; omega))).alloc (by have := u.2.size; simp at this; omega) _
      have hT1 : ∀ o, LongTab (wc.alloc o) := fun o => hwT.below ((Below.refl _ _).alloc (Nat.le_refl _) _)
      have hof := fun o => Calls.toUp (tof_any y m d hh mi ss (wc.alloc o) (hT1 o))
      have hat := fun {W : World} (u : Up W) => Calls.up_of (tat_yes (tofN y m d hh mi ss) u.1 (may_tofN y m d hh mi ss))
      unfold civV at hof hat
      clear hL
      go_wp2_with (first | (go_at_call 16; refine (hof _).mono ?_; rintro e _ ⟨rfl, u, rfl⟩) | (go_at_call 18; refine (hat u).mono ?_; rintro e _ ⟨rfl, u, rfl⟩; have hlt2 := u.size_lt))
      obtain ⟨y', m', d', hh', mi', ss', hl⟩ : ∃ y m d hh mi ss, numsL (bI s) 19 = [y, m, d, hh, mi, ss] := ⟨_, _, _, _, _, _, rfl⟩
      obtain ⟨rfl, rfl⟩ := HNO.out _ _ _ _ _ _ hl (fun hx => hbad.out hx.1)
      rw [Exit.noGoto_ret]
      go_ret2
      exact ⟨rfl, HB _ u _⟩

end Go.Proofs.YtpolhepihkbfnaaDoor
