/-
  Times as texts (package times): what the parts of a told time write.
-/
import Derived.Test.YtpolhepihkbfnaaDoorBase
import Derived.Deep.RegionHeld3
import Derived.Deep.RegionLaw
import Derived.Deep.AppendLies
import Derived.Lib.AppendStr
namespace Go.Proofs.YtpolhepihkbfnaaDoor
set_option linter.unusedVariables false
set_option linter.unusedSimpArgs false
open Go.RowKit

/-- A told time in block g: its civil time, and its text so far. -/
structure ToldAt (w : World) (g : Nat) (y m d hh mi ss : Int) (ov : Value) (n : Nat) (xs : List Value) : Prop where
  blk : w.heap[g]? = some (.cells #[.int .i64 y, .int .i64 m, .int .i64 d, .int .i64 hh, .int .i64 mi, .int .i64 ss, ov] 71 (0, 0))
  own : w.ownsRow (g + 1) 5 1 ov n xs

theorem ToldAt.lt {w : World} {g : Nat} {y m d hh mi ss : Int} {ov : Value} {n : Nat} {xs : List Value} (h : ToldAt w g y m d hh mi ss ov n xs) : g < w.heap.size := by
  rcases Nat.lt_or_ge g w.heap.size with hlt | hge
  · exact hlt
  · have := h.blk; rw [Array.getElem?_eq_none hge] at this; cases this
theorem ToldAt.cast {w : World} {g : Nat} {y m d hh mi ss : Int} {ov : Value} {n n' : Nat} {xs xs' : List Value} (h : ToldAt w g y m d hh mi ss ov n xs) (hn : n = n') (hx : xs = xs') : ToldAt w g y m d hh mi ss ov n' xs' := by
  subst hn hx; exact h
theorem blk_cell {w : World} {g : Nat} {cs : Array Value} {t : TypeId} (h : w.heap[g]? = some (.cells cs t (0, 0))) (i : Nat) : w.cell? ⟨g, i, none⟩ = cs[i]? := cell_of_row w g i cs t (0, 0) h
theorem blk_frozen {w : World} {g : Nat} {cs : Array Value} {t : TypeId} (h : w.heap[g]? = some (.cells cs t (0, 0))) (i : Nat) : w.frozen? ⟨g, i, none⟩ = false := by
  simp [World.frozen?, h]
theorem own_ne {w : World} {g : Nat} {e : TypeId} {s n : Nat} {ov : Value} {xs : List Value} (h : w.ownsRow (g + 1) e s ov n xs) : ov.ownBlock ≠ some g := fun he => by
  have := (h.lt g he).1; omega

/-- A cell of a block that the append did not turn. -/
theorem cell_kept {wr w1 : World} {o : Obj} {g i : Nat} {u : Value} {row : Option Nat} (hc : wr.cell? ⟨g, i, none⟩ = some u) (hf : wr.frozen? ⟨g, i, none⟩ = false) (hlt : g < wr.heap.size) (hne : row ≠ some g) (hg : ((wr.alloc o).drew).grownBy w1 row) :
    w1.cell? ⟨g, i, none⟩ = some u ∧ w1.frozen? ⟨g, i, none⟩ = false := by
  have e : w1.heap[g]? = wr.heap[g]? := (hg.block g (by simp; omega) (Ne.symm hne)).trans (Below.heap_alloc wr o g hlt)
  exact ⟨(World.cell?_of_block (w := wr) (a := ⟨g, i, none⟩) e).trans hc, (World.frozen?_of_block (w := wr) (a := ⟨g, i, none⟩) e).trans hf⟩
theorem grown_alloc {wr w1 : World} {o : Obj} {row : Option Nat} (hg : ((wr.alloc o).drew).grownBy w1 row) : wr.grownBy w1 row :=
  ⟨hg.os, hg.tape, hg.output, by have := hg.size; simp at this; omega, fun k hk hne => (hg.block k (by simp; omega) hne).trans (Below.heap_alloc wr o k hk)⟩

/-- Behind an append to the text and a store of it. -/
theorem ToldAt.next {w w1 : World} {g : Nat} {y m d hh mi ss : Int} {ov ov1 : Value} {n n1 : Nat} {xs xs1 : List Value} (h : ToldAt w g y m d hh mi ss ov n xs) (hg : w.grownBy w1 ov.ownBlock) (ho : w1.ownsRow (g + 1) 5 1 ov1 n1 xs1) :
    ToldAt (w1.setCell ⟨g, 6, none⟩ ov1) g y m d hh mi ss ov1 n1 xs1 ∧ Below g w (w1.setCell ⟨g, 6, none⟩ ov1) := by
  have hb : w1.heap[g]? = w.heap[g]? := hg.block g h.lt (fun e => own_ne h.own e.symm)
  refine ⟨⟨?_, ownsRow_setCell_below ho (by simp) _⟩, ?_⟩
  · simp [World.setCell, Array.getElem?_modify, hb, h.blk]
  · refine Below.setCell ((Below.refl _ _).grown hg (Nat.le_of_lt h.lt) (fun k hk => ?_)) (Nat.le_refl _) _
    have := (h.own.lt k hk).1; omega

def ToldPost (w : World) (g : Nat) (y m d hh mi ss : Int) (n : Nat) (xs : List Value) (e : Ending) (w' : World) : Prop :=
  e = .returned (.tuple #[]) ∧ (∃ ov, ToldAt w' g y m d hh mi ss ov n xs) ∧ Below g w w'

def un : Nat → Int | 0 => 0 | 1 => 1 | 2 => 10 | 3 => 100 | _ => 1000
def dgs (n : Int) : Nat → List Value | 0 => [] | 1 => [.int .u8 (48 + n % 10)] | 2 => [.int .u8 (48 + n / 10 % 10), .int .u8 (48 + n % 10)] | 3 => [.int .u8 (48 + n / 100 % 10), .int .u8 (48 + n / 10 % 10), .int .u8 (48 + n % 10)] | _ => [.int .u8 (48 + n / 1000 % 10), .int .u8 (48 + n / 100 % 10), .int .u8 (48 + n / 10 % 10), .int .u8 (48 + n % 10)]

theorem wrap_dig (x : Int) (h0 : 0 ≤ x) (h1 : x ≤ 9999) : IntKind.u8.wrap (IntKind.i64.wrap (48 + (IntKind.i64.wrap x).tmod 10)) = 48 + x % 10 := by
  have e1 : IntKind.i64.wrap x = x := IntWalk.i64_in _ (by omega)
  have e2 : x.tmod 10 = x % 10 := Int.tmod_eq_emod_of_nonneg h0
  have e3 : IntKind.i64.wrap (48 + x % 10) = 48 + x % 10 := IntWalk.i64_in _ (by omega)
  rw [e1, e2, e3]
  show (48 + x % 10) % 256 = _
  omega
theorem digw1000 (q : Int) (q0 : 0 ≤ q) (q1 : q ≤ 9999) : IntKind.u8.wrap (IntKind.i64.wrap (48 + (IntKind.i64.wrap (q.tdiv 1000)).tmod 10)) = 48 + q / 1000 % 10 := by
  rw [Int.tdiv_eq_ediv_of_nonneg q0]; exact wrap_dig _ (by omega) (by omega)
theorem digw100 (q : Int) (q0 : 0 ≤ q) (q1 : q ≤ 9999) : IntKind.u8.wrap (IntKind.i64.wrap (48 + (IntKind.i64.wrap (q.tdiv 100)).tmod 10)) = 48 + q / 100 % 10 := by
  rw [Int.tdiv_eq_ediv_of_nonneg q0]; exact wrap_dig _ (by omega) (by omega)
theorem digw10 (q : Int) (q0 : 0 ≤ q) (q1 : q ≤ 9999) : IntKind.u8.wrap (IntKind.i64.wrap (48 + (IntKind.i64.wrap (q.tdiv 10)).tmod 10)) = 48 + q / 10 % 10 := by
  rw [Int.tdiv_eq_ediv_of_nonneg q0]; exact wrap_dig _ (by omega) (by omega)
theorem digw1 (q : Int) (q0 : 0 ≤ q) (q1 : q ≤ 9999) : IntKind.u8.wrap (IntKind.i64.wrap (48 + (IntKind.i64.wrap q).tmod 10)) = 48 + q % 10 := wrap_dig _ (by omega) (by omega)
theorem info8 : (Tryd.prog.info? 5).map (fun i => (i.zero, i.size, i.bytes)) = some (some (.int .u8 0), 1, 1) := by kernel_rfl

set_option maxRecDepth 100000 in
set_option maxHeartbeats 4000000 in
theorem number4 (w : World) (g : Nat) (y m d hh mi ss : Int) (ov : Value) (n : Nat) (xs : List Value) (h : ToldAt w g y m d hh mi ss ov n xs) (hn : n ≤ 100) (q : Int) (q0 : 0 ≤ q) (q1 : q ≤ 9999) (s : ByteArray) (hs : s.size ≤ 3) :
    Calls Tryd.prog 45 #[.pointer (some ⟨g, 0, none⟩), .int .i64 q, .int .i64 4, .string s] w (ToldPost w g y m d hh mi ss (n + 4 + s.size) (xs ++ dgs q 4 ++ Lib.strCells s)) := by
  obtain ⟨i0, hi0, hz0, hz1, hz2⟩ := info_parts info8
  go_enter Tryd.func45, Tryd.ntmps45
  go_wp2_with fail
  go_loopw [8, 11] (fun u i wr => w = wr ∧ ((u = .int .i64 1 ∧ i = .int .i64 0) ∨ (u = .int .i64 10 ∧ i = .int .i64 1) ∨ (u = .int .i64 100 ∧ i = .int .i64 2) ∨ (u = .int .i64 1000 ∧ i = .int .i64 3))) (fun _ i _ => (3 - intOf i).toNat)
  case atStart => exact ⟨rfl, .inl ⟨rfl, rfl⟩⟩
  case round =>
    obtain ⟨rfl, ⟨rfl, rfl⟩ | ⟨rfl, rfl⟩ | ⟨rfl, rfl⟩ | ⟨rfl, rfl⟩⟩ := hrel
    · go_wp2_with fail
      go_roundw
      case rel => exact ⟨trivial, .inr (.inl ⟨rfl, rfl⟩)⟩
      case measure => simp [intOf]
    · go_wp2_with fail
      go_roundw
      case rel => exact ⟨trivial, .inr (.inr (.inl ⟨rfl, rfl⟩))⟩
      case measure => simp [intOf]
    · go_wp2_with fail
      go_roundw
      case rel => exact ⟨trivial, .inr (.inr (.inr ⟨rfl, rfl⟩))⟩
      case measure => simp [intOf]
    · go_wp2_with fail
      go_loopw [8] (fun u wr => ∃ j : Nat, j ≤ 4 ∧ u = .int .i64 (un j) ∧ ∃ ov1, ToldAt wr g y m d hh mi ss ov1 (n + (4 - j)) (xs ++ (dgs q 4).take (4 - j)) ∧ Below g w wr) (fun u _ => (intOf u).toNat)
      case atStart => exact ⟨4, by omega, rfl, ov, by simpa using h, Below.refl _ _⟩
      case round =>
        obtain ⟨j, hj, rfl, ov1, h1, hb⟩ := hrel
        have hc := blk_cell h1.blk 6
        have hf := blk_frozen h1.blk 6
        have hlt := h1.lt
        have hne := own_ne h1.own
        simp only [List.getElem?_toArray, List.getElem?_cons_succ, List.getElem?_cons_zero] at hc
        have hjs : j = 4 ∨ j = 3 ∨ j = 2 ∨ j = 1 ∨ j = 0 := by omega
        rcases hjs with rfl | rfl | rfl | rfl | rfl
        case' inl => rw [show un 4 = 1000 from rfl]
        case' inr.inl => rw [show un 3 = 100 from rfl]
        case' inr.inr.inl => rw [show un 2 = 10 from rfl]
        case' inr.inr.inr.inl => rw [show un 1 = 1 from rfl]
        case' inr.inr.inr.inr => rw [show un 0 = 0 from rfl]
        case inr.inr.inr.inr =>
          go_wp2_with ((at_builtin; refine Lib.wpList_append_own_string _ rfl _ _ 69 9 rfl (g + 1) 5 i0 Tryd.underlying69 Tryd.underlying9 hi0 hz0 hz1 hz2 _ _ _ rfl h1.own s rfl (by unfold maxLen; omega) (by omega) (by omega) ?_; intro v' w1 hown1 hgrow _; obtain ⟨gg, cap, rfl, hgb, hgl⟩ := hown1.form (by omega); have hc1 := (hgrow.cell_far ⟨g, 6, none⟩ hlt (Ne.symm hne)).trans hc; have hf1 := (hgrow.frozen_far ⟨g, 6, none⟩ hlt (Ne.symm hne)).trans hf))
          obtain ⟨hN, hBN⟩ := h1.next hgrow hown1
          go_end0
          exact ⟨rfl, ⟨_, hN.cast (by omega) (by rw [List.take_of_length_le (by simp [dgs])])⟩, hb.trans hBN⟩
        all_goals
          clear h
          go_wp2_with fail
          go_region_law
            ((refine step_append_lies _ (by rfl) _ _ _ (by rfl) (g + 1) 5 i0 _ 1 1 Tryd.underlying69 hi0 hz0 hz1 hz2 rfl (by omega) ov1 _ _ (by rfl) ((h1.own.alloc _).drew) ⟨wr.heap.size, 0, none⟩ 1 1 [_] (by rfl) (by rfl) (World.news_of_block (cs := #[_]) (t := 5) (fr := (0, 0)) (heap_alloc_new wr _)) (by simp [Value.oneCell']) (by omega) (by unfold maxLen; omega) (by omega) (by simp; omega) (wr.heap.size + 1) (by simp) ?_; intro gg cap w1 hown1 hgrow hat hlt1; obtain ⟨hc1, hf1⟩ := cell_kept hc hf hlt hne hgrow))
        all_goals
          obtain ⟨hN, hBN⟩ := h1.next (grown_alloc hgrow) hown1
          clear hgrow hown1 h1 hc hf hc1 hf1
          go_wp2_with fail
          go_roundw
          case measure => simp [intOf]
          case rel =>
            first
              | exact ⟨3, by omega, rfl, _, hN.cast (by omega) (by rw [List.append_assoc, List.append_cancel_left_eq]; simp [dgs, digw1000 q q0 q1]), hb.trans hBN⟩
              | exact ⟨2, by omega, rfl, _, hN.cast (by omega) (by rw [List.append_assoc, List.append_cancel_left_eq]; simp [dgs, digw100 q q0 q1]), hb.trans hBN⟩
              | exact ⟨1, by omega, rfl, _, hN.cast (by omega) (by rw [List.append_assoc, List.append_cancel_left_eq]; simp [dgs, digw10 q q0 q1]), hb.trans hBN⟩
              | exact ⟨0, by omega, rfl, _, hN.cast (by omega) (by rw [List.append_assoc, List.append_cancel_left_eq]; simp [dgs, digw1 q q0 q1]), hb.trans hBN⟩
set_option maxRecDepth 100000 in
set_option maxHeartbeats 4000000 in
theorem number2 (w : World) (g : Nat) (y m d hh mi ss : Int) (ov : Value) (n : Nat) (xs : List Value) (h : ToldAt w g y m d hh mi ss ov n xs) (hn : n ≤ 100) (q : Int) (q0 : 0 ≤ q) (q1 : q ≤ 99) (s : ByteArray) (hs : s.size ≤ 3) :
    Calls Tryd.prog 45 #[.pointer (some ⟨g, 0, none⟩), .int .i64 q, .int .i64 2, .string s] w (ToldPost w g y m d hh mi ss (n + 2 + s.size) (xs ++ dgs q 2 ++ Lib.strCells s)) := by
  obtain ⟨i0, hi0, hz0, hz1, hz2⟩ := info_parts info8
  go_enter Tryd.func45, Tryd.ntmps45
  go_wp2_with fail
  go_loopw [8, 11] (fun u i wr => w = wr ∧ ((u = .int .i64 1 ∧ i = .int .i64 0) ∨ (u = .int .i64 10 ∧ i = .int .i64 1))) (fun _ i _ => (1 - intOf i).toNat)
  case atStart => exact ⟨rfl, .inl ⟨rfl, rfl⟩⟩
  case round =>
    obtain ⟨rfl, ⟨rfl, rfl⟩ | ⟨rfl, rfl⟩⟩ := hrel
    · go_wp2_with fail
      go_roundw
      case rel => exact ⟨trivial, .inr ⟨rfl, rfl⟩⟩
      case measure => simp [intOf]
    · go_wp2_with fail
      go_loopw [8] (fun u wr => ∃ j : Nat, j ≤ 2 ∧ u = .int .i64 (un j) ∧ ∃ ov1, ToldAt wr g y m d hh mi ss ov1 (n + (2 - j)) (xs ++ (dgs q 2).take (2 - j)) ∧ Below g w wr) (fun u _ => (intOf u).toNat)
      case atStart => exact ⟨2, by omega, rfl, ov, by simpa using h, Below.refl _ _⟩
      case round =>
        obtain ⟨j, hj, rfl, ov1, h1, hb⟩ := hrel
        have hc := blk_cell h1.blk 6
        have hf := blk_frozen h1.blk 6
        have hlt := h1.lt
        have hne := own_ne h1.own
        simp only [List.getElem?_toArray, List.getElem?_cons_succ, List.getElem?_cons_zero] at hc
        have hjs : j = 2 ∨ j = 1 ∨ j = 0 := by omega
        rcases hjs with rfl | rfl | rfl
        case' inl => rw [show un 2 = 10 from rfl]
        case' inr.inl => rw [show un 1 = 1 from rfl]
        case' inr.inr => rw [show un 0 = 0 from rfl]
        case inr.inr =>
          go_wp2_with ((at_builtin; refine Lib.wpList_append_own_string _ rfl _ _ 69 9 rfl (g + 1) 5 i0 Tryd.underlying69 Tryd.underlying9 hi0 hz0 hz1 hz2 _ _ _ rfl h1.own s rfl (by unfold maxLen; omega) (by omega) (by omega) ?_; intro v' w1 hown1 hgrow _; obtain ⟨gg, cap, rfl, hgb, hgl⟩ := hown1.form (by omega); have hc1 := (hgrow.cell_far ⟨g, 6, none⟩ hlt (Ne.symm hne)).trans hc; have hf1 := (hgrow.frozen_far ⟨g, 6, none⟩ hlt (Ne.symm hne)).trans hf))
          obtain ⟨hN, hBN⟩ := h1.next hgrow hown1
          go_end0
          exact ⟨rfl, ⟨_, hN.cast (by omega) (by rw [List.take_of_length_le (by simp [dgs])])⟩, hb.trans hBN⟩
        all_goals
          clear h
          go_wp2_with fail
          go_region_law
            ((refine step_append_lies _ (by rfl) _ _ _ (by rfl) (g + 1) 5 i0 _ 1 1 Tryd.underlying69 hi0 hz0 hz1 hz2 rfl (by omega) ov1 _ _ (by rfl) ((h1.own.alloc _).drew) ⟨wr.heap.size, 0, none⟩ 1 1 [_] (by rfl) (by rfl) (World.news_of_block (cs := #[_]) (t := 5) (fr := (0, 0)) (heap_alloc_new wr _)) (by simp [Value.oneCell']) (by omega) (by unfold maxLen; omega) (by omega) (by simp; omega) (wr.heap.size + 1) (by simp) ?_; intro gg cap w1 hown1 hgrow hat hlt1; obtain ⟨hc1, hf1⟩ := cell_kept hc hf hlt hne hgrow))
        all_goals
          obtain ⟨hN, hBN⟩ := h1.next (grown_alloc hgrow) hown1
          clear hgrow hown1 h1 hc hf hc1 hf1
          go_wp2_with fail
          go_roundw
          case measure => simp [intOf]
          case rel =>
            first
              | exact ⟨1, by omega, rfl, _, hN.cast (by omega) (by rw [List.append_assoc, List.append_cancel_left_eq]; simp [dgs, digw10 q q0 (by omega)]), hb.trans hBN⟩
              | exact ⟨0, by omega, rfl, _, hN.cast (by omega) (by rw [List.append_assoc, List.append_cancel_left_eq]; simp [dgs, digw1 q q0 (by omega)]), hb.trans hBN⟩
end Go.Proofs.YtpolhepihkbfnaaDoor
