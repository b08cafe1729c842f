/-
  A time's text (package times).
-/
import Derived.Test.YtpolhepihkbfnaaDoorTimes
import Derived.Test.YtpolhepihkbfnaaDoorToldParts
import Derived.Lib.ConvBytes
import Derived.Laws.BytesArg
namespace Go.Proofs.YtpolhepihkbfnaaDoor
set_option linter.unusedVariables false
set_option linter.unusedSimpArgs false
open Go.RowKit
attribute [local go_sem] Up.new Up.newF

/-- A civil time's text, byte by byte. -/
def civL (y m d hh mi ss : Int) : List Int :=
  [48 + y / 1000 % 10, 48 + y / 100 % 10, 48 + y / 10 % 10, 48 + y % 10, 45, 48 + m / 10 % 10, 48 + m % 10, 45, 48 + d / 10 % 10, 48 + d % 10, 32,
    48 + hh / 10 % 10, 48 + hh % 10, 58, 48 + mi / 10 % 10, 48 + mi % 10, 58, 48 + ss / 10 % 10, 48 + ss % 10]
/-- The text so far, part by part. -/
def cT (y m d hh mi ss : Int) : Nat → List Value
  | 0 => []
  | 1 => dgs y 4 ++ Lib.strCells ⟨#[45]⟩
  | 2 => dgs y 4 ++ Lib.strCells ⟨#[45]⟩ ++ dgs m 2 ++ Lib.strCells ⟨#[45]⟩
  | 3 => dgs y 4 ++ Lib.strCells ⟨#[45]⟩ ++ dgs m 2 ++ Lib.strCells ⟨#[45]⟩ ++ dgs d 2 ++ Lib.strCells ⟨#[32]⟩
  | 4 => dgs y 4 ++ Lib.strCells ⟨#[45]⟩ ++ dgs m 2 ++ Lib.strCells ⟨#[45]⟩ ++ dgs d 2 ++ Lib.strCells ⟨#[32]⟩ ++ dgs hh 2 ++ Lib.strCells ⟨#[58]⟩
  | 5 => dgs y 4 ++ Lib.strCells ⟨#[45]⟩ ++ dgs m 2 ++ Lib.strCells ⟨#[45]⟩ ++ dgs d 2 ++ Lib.strCells ⟨#[32]⟩ ++ dgs hh 2 ++ Lib.strCells ⟨#[58]⟩ ++ dgs mi 2 ++ Lib.strCells ⟨#[58]⟩
  | _ => dgs y 4 ++ Lib.strCells ⟨#[45]⟩ ++ dgs m 2 ++ Lib.strCells ⟨#[45]⟩ ++ dgs d 2 ++ Lib.strCells ⟨#[32]⟩ ++ dgs hh 2 ++ Lib.strCells ⟨#[58]⟩ ++ dgs mi 2 ++ Lib.strCells ⟨#[58]⟩ ++ dgs ss 2 ++ Lib.strCells ⟨#[]⟩
theorem cT_civL (y m d hh mi ss : Int) : cT y m d hh mi ss 6 = (civL y m d hh mi ss).map (.int .u8) := by simp [cT, civL, dgs, Lib.strCells]
def cN : Nat → Nat | 0 => 0 | 1 => 5 | 2 => 8 | 3 => 11 | 4 => 14 | 5 => 17 | _ => 19
def partV (k g : Nat) : Value := .func (.func k) #[.pointer (some ⟨g, 0, none⟩)] #[]
def partsF (g : Nat) : Value := .agg #[partV 19 g, partV 20 g, partV 21 g, partV 22 g, partV 23 g, partV 24 g]
theorem part0 (g : Nat) (w : World) : (Instr.index 72 (partsF g) (.int .i64 0)).run Tryd.prog w = .ok (partV 19 g) w := by kernel_rfl
theorem part1 (g : Nat) (w : World) : (Instr.index 72 (partsF g) (.int .i64 1)).run Tryd.prog w = .ok (partV 20 g) w := by kernel_rfl
theorem part2 (g : Nat) (w : World) : (Instr.index 72 (partsF g) (.int .i64 2)).run Tryd.prog w = .ok (partV 21 g) w := by kernel_rfl
theorem part3 (g : Nat) (w : World) : (Instr.index 72 (partsF g) (.int .i64 3)).run Tryd.prog w = .ok (partV 22 g) w := by kernel_rfl
theorem part4 (g : Nat) (w : World) : (Instr.index 72 (partsF g) (.int .i64 4)).run Tryd.prog w = .ok (partV 23 g) w := by kernel_rfl
theorem part5 (g : Nat) (w : World) : (Instr.index 72 (partsF g) (.int .i64 5)).run Tryd.prog w = .ok (partV 24 g) w := by kernel_rfl

set_option maxRecDepth 100000 in
set_option maxHeartbeats 2000000 in
theorem text_no (t : Int) (w : World) (h : mayB t = false) :
    Calls Tryd.prog 6 #[.int .i64 t] w fun e w' => e = .returned (.tuple #[.string ⟨#[]⟩, .int .i64 2]) ∧ Below w.heap.size w w' := by
  have hcall := Calls.toUp (tat_no t w h)
  unfold civV at hcall
  go_enter Tryd.func6, Tryd.ntmps6
  go_wp2_with ((go_at_call 18; refine hcall.mono ?_; rintro e _ ⟨rfl, u, rfl⟩))
  go_ret2
  exact ⟨rfl, u.2.alloc u.2.size _⟩

set_option maxRecDepth 100000 in
set_option maxHeartbeats 2000000 in
theorem text_yes (t : Int) (w : World) (h : mayB t = true) :
    Calls Tryd.prog 6 #[.int .i64 t] w fun e w' => e = .returned (.tuple #[.string (strOfNums (civL (atY (tq t)) (atM (tq t)) (atD (tq t)) (tr t / 3600) (tr t % 3600 / 60) (tr t % 60))), .int .i64 0]) ∧ Below w.heap.size w w' := by
  have hcall := Calls.toUp (tat_yes t w h)
  obtain ⟨t0, t1⟩ := (mayB_iff t).1 h
  have hr := at_right (tq t) (by unfold tq; omega) (by unfold tq; omega)
  obtain ⟨y0, y1, m0, m1, d0, d1⟩ := date_bd hr.1
  have hh0 : 0 ≤ tr t / 3600 ∧ tr t / 3600 ≤ 99 := by unfold tr; omega
  have mi0 : 0 ≤ tr t % 3600 / 60 ∧ tr t % 3600 / 60 ≤ 99 := by unfold tr; omega
  have ss0 : 0 ≤ tr t % 60 ∧ tr t % 60 ≤ 99 := by unfold tr; omega
  unfold civV at hcall
  clear hr h t0 t1
  generalize atY (tq t) = y at *
  generalize atM (tq t) = m at *
  generalize atD (tq t) = d at *
  generalize tr t / 3600 = hh at *
  generalize tr t % 3600 / 60 = mi at *
  generalize tr t % 60 = ss at *
  go_enter Tryd.func6, Tryd.ntmps6
  go_wp2_with ((go_at_call 18; refine hcall.mono ?_; rintro e _ ⟨rfl, u, rfl⟩))
  have hA : ToldAt ((u.1.alloc (.cells #[.int .i64 y, .int .i64 m, .int .i64 d, .int .i64 hh, .int .i64 mi, .int .i64 ss] 64)).alloc (.cells #[.int .i64 y, .int .i64 m, .int .i64 d, .int .i64 hh, .int .i64 mi, .int .i64 ss, .slice none 0 0] 71)) (u.1.heap.size + 1) y m d hh mi ss (.slice none 0 0) 0 [] :=
    ⟨by have := heap_alloc_new (u.1.alloc (.cells #[.int .i64 y, .int .i64 m, .int .i64 d, .int .i64 hh, .int .i64 mi, .int .i64 ss] 64)) (.cells #[.int .i64 y, .int .i64 m, .int .i64 d, .int .i64 hh, .int .i64 mi, .int .i64 ss, .slice none 0 0] 71); simpa using this, World.ownsRow_nil _ _ _ _⟩
  have hB : Below w.heap.size w ((u.1.alloc (.cells #[.int .i64 y, .int .i64 m, .int .i64 d, .int .i64 hh, .int .i64 mi, .int .i64 ss] 64)).alloc (.cells #[.int .i64 y, .int .i64 m, .int .i64 d, .int .i64 hh, .int .i64 mi, .int .i64 ss, .slice none 0 0] 71)) := (u.2.alloc u.2.size _).alloc (by have := u.2.size; simp; omega) _
  have hg : w.heap.size ≤ u.1.heap.size + 1 := by have := u.2.size; omega
  generalize (u.1.alloc (.cells #[.int .i64 y, .int .i64 m, .int .i64 d, .int .i64 hh, .int .i64 mi, .int .i64 ss] 64)).alloc (.cells #[.int .i64 y, .int .i64 m, .int .i64 d, .int .i64 hh, .int .i64 mi, .int .i64 ss, .slice none 0 0] 71) = W0 at hA hB ⊢
  generalize u.1.heap.size + 1 = g at hA hg ⊢
  have p0 := part0 g
  have p1 := part1 g
  have p2 := part2 g
  have p3 := part3 g
  have p4 := part4 g
  have p5 := part5 g
  unfold partsF partV at p0 p1 p2 p3 p4 p5
  clear hcall
  go_loopw [33] (fun i wr => ∃ k : Nat, (k ≤ 6 ∧ i = .int .i64 k) ∧ (∃ ov, ToldAt wr g y m d hh mi ss ov (cN k) (cT y m d hh mi ss k)) ∧ Below w.heap.size w wr) (fun i _ => (6 - intOf i).toNat)
  case atStart => exact ⟨0, ⟨by omega, rfl⟩, ⟨_, hA⟩, hB⟩
  case round =>
    obtain ⟨k, ⟨hk, rfl⟩, ⟨ov, h⟩, hb⟩ := hrel
    have hks : k = 0 ∨ k = 1 ∨ k = 2 ∨ k = 3 ∨ k = 4 ∨ k = 5 ∨ k = 6 := by omega
    rcases hks with rfl | rfl | rfl | rfl | rfl | rfl | rfl
    · go_wp2_with ((go_at_call 19; refine (told_year wr g y m d hh mi ss ov _ _ h (by decide) (by omega) (by omega)).mono ?_; rintro e w1 ⟨rfl, ⟨ov1, h1⟩, hb1⟩))
      go_roundw
      case measure => simp [intOf]
      case rel => exact ⟨1, ⟨by omega, rfl⟩, ⟨_, h1.cast (by simp [cN, ByteArray.size]) (by simp [cT])⟩, hb.trans (hb1.mono hg)⟩
    · go_wp2_with ((go_at_call 20; refine (told_month wr g y m d hh mi ss ov _ _ h (by decide) (by omega) (by omega)).mono ?_; rintro e w1 ⟨rfl, ⟨ov1, h1⟩, hb1⟩))
      go_roundw
      case measure => simp [intOf]
      case rel => exact ⟨2, ⟨by omega, rfl⟩, ⟨_, h1.cast (by simp [cN, ByteArray.size]) (by simp [cT])⟩, hb.trans (hb1.mono hg)⟩
    · go_wp2_with ((go_at_call 21; refine (told_day wr g y m d hh mi ss ov _ _ h (by decide) (by omega) (by omega)).mono ?_; rintro e w1 ⟨rfl, ⟨ov1, h1⟩, hb1⟩))
      go_roundw
      case measure => simp [intOf]
      case rel => exact ⟨3, ⟨by omega, rfl⟩, ⟨_, h1.cast (by simp [cN, ByteArray.size]) (by simp [cT])⟩, hb.trans (hb1.mono hg)⟩
    · go_wp2_with ((go_at_call 22; refine (told_hour wr g y m d hh mi ss ov _ _ h (by decide) (by omega) (by omega)).mono ?_; rintro e w1 ⟨rfl, ⟨ov1, h1⟩, hb1⟩))
      go_roundw
      case measure => simp [intOf]
      case rel => exact ⟨4, ⟨by omega, rfl⟩, ⟨_, h1.cast (by simp [cN, ByteArray.size]) (by simp [cT])⟩, hb.trans (hb1.mono hg)⟩
    · go_wp2_with ((go_at_call 23; refine (told_minute wr g y m d hh mi ss ov _ _ h (by decide) (by omega) (by omega)).mono ?_; rintro e w1 ⟨rfl, ⟨ov1, h1⟩, hb1⟩))
      go_roundw
      case measure => simp [intOf]
      case rel => exact ⟨5, ⟨by omega, rfl⟩, ⟨_, h1.cast (by simp [cN, ByteArray.size]) (by simp [cT])⟩, hb.trans (hb1.mono hg)⟩
    · go_wp2_with ((go_at_call 24; refine (told_second wr g y m d hh mi ss ov _ _ h (by decide) (by omega) (by omega)).mono ?_; rintro e w1 ⟨rfl, ⟨ov1, h1⟩, hb1⟩))
      go_roundw
      case measure => simp [intOf]
      case rel => exact ⟨6, ⟨by omega, rfl⟩, ⟨_, h1.cast (by simp [cN, ByteArray.size]) (by simp [cT])⟩, hb.trans (hb1.mono hg)⟩
    · have hown := h.own
      rw [show cN 6 = 19 from rfl, cT_civL] at hown
      obtain ⟨gg, cap, rfl, hgb, hgl⟩ := hown.form (by omega)
      have hc := blk_cell h.blk 6
      simp only [List.getElem?_toArray, List.getElem?_cons_succ, List.getElem?_cons_zero] at hc
      have hconv := run_convert_bytes_arg (P := Tryd.prog) wr 69 5 Tryd.underlying69 Tryd.underlying5 gg 0 19 cap (civL y m d hh mi ss) (by simp [civL]) (fun i hi => by
        rw [Nat.zero_add, hown.cellAt i (by omega)]
        have hl : i < (civL y m d hh mi ss).length := by simpa [civL] using hi
        simp [List.getElem?_eq_getElem hl]) 9 Tryd.underlying9
      rw [show ((6 : Nat) : Int) = 6 from rfl]
      obtain ⟨L, hL⟩ : ∃ L, L = civL y m d hh mi ss := ⟨_, rfl⟩
      rw [← hL] at hconv
      have HL := Lib.hid hL
      clear hL
      clear h hown p0 p1 p2 p3 p4 p5 hA
      go_wp2_with fail
      go_ret2
      exact ⟨by rw [← HL.out]; rfl, hb⟩
end Go.Proofs.YtpolhepihkbfnaaDoor
