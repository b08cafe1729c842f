/-
  Times as texts (package times): the six parts of a told time.
-/
import Derived.Test.YtpolhepihkbfnaaDoorTold
namespace Go.Proofs.YtpolhepihkbfnaaDoor
set_option linter.unusedVariables false
set_option linter.unusedSimpArgs false
open Go.RowKit

theorem sep_size (l : List UInt8) : (⟨l.toArray⟩ : ByteArray).size = l.length := by simp [ByteArray.size]

set_option maxHeartbeats 1000000 in
theorem told_year (w : World) (g : Nat) (y m d hh mi ss : Int) (ov : Value) (n : Nat) (xs : List Value) (h : ToldAt w g y m d hh mi ss ov n xs) (hn : n ≤ 100) (q0 : 0 ≤ y) (q1 : y ≤ 9999) :
    Calls Tryd.prog 19 #[.pointer (some ⟨g, 0, none⟩)] w (ToldPost w g y m d hh mi ss (n + 4 + (⟨#[45]⟩ : ByteArray).size) (xs ++ dgs y 4 ++ Lib.strCells ⟨#[45]⟩)) := by
  have hc := blk_cell h.blk 0
  simp only [List.getElem?_toArray, List.getElem?_cons_succ, List.getElem?_cons_zero] at hc
  go_enter Tryd.func19, Tryd.ntmps19
  go_wp2_with ((go_at_call 45; refine (number4 w g y m d hh mi ss ov n xs h hn y q0 q1 _ (by decide)).mono ?_; rintro e w' ⟨rfl, hx, hb⟩))
  go_end0
  exact ⟨rfl, hx, hb⟩

set_option maxHeartbeats 1000000 in
theorem told_month (w : World) (g : Nat) (y m d hh mi ss : Int) (ov : Value) (n : Nat) (xs : List Value) (h : ToldAt w g y m d hh mi ss ov n xs) (hn : n ≤ 100) (q0 : 0 ≤ m) (q1 : m ≤ 99) :
    Calls Tryd.prog 20 #[.pointer (some ⟨g, 0, none⟩)] w (ToldPost w g y m d hh mi ss (n + 2 + (⟨#[45]⟩ : ByteArray).size) (xs ++ dgs m 2 ++ Lib.strCells ⟨#[45]⟩)) := by
  have hc := blk_cell h.blk 1
  simp only [List.getElem?_toArray, List.getElem?_cons_succ, List.getElem?_cons_zero] at hc
  go_enter Tryd.func20, Tryd.ntmps20
  go_wp2_with ((go_at_call 45; refine (number2 w g y m d hh mi ss ov n xs h hn m q0 q1 _ (by decide)).mono ?_; rintro e w' ⟨rfl, hx, hb⟩))
  go_end0
  exact ⟨rfl, hx, hb⟩

set_option maxHeartbeats 1000000 in
theorem told_day (w : World) (g : Nat) (y m d hh mi ss : Int) (ov : Value) (n : Nat) (xs : List Value) (h : ToldAt w g y m d hh mi ss ov n xs) (hn : n ≤ 100) (q0 : 0 ≤ d) (q1 : d ≤ 99) :
    Calls Tryd.prog 21 #[.pointer (some ⟨g, 0, none⟩)] w (ToldPost w g y m d hh mi ss (n + 2 + (⟨#[32]⟩ : ByteArray).size) (xs ++ dgs d 2 ++ Lib.strCells ⟨#[32]⟩)) := by
  have hc := blk_cell h.blk 2
  simp only [List.getElem?_toArray, List.getElem?_cons_succ, List.getElem?_cons_zero] at hc
  go_enter Tryd.func21, Tryd.ntmps21
  go_wp2_with ((go_at_call 45; refine (number2 w g y m d hh mi ss ov n xs h hn d q0 q1 _ (by decide)).mono ?_; rintro e w' ⟨rfl, hx, hb⟩))
  go_end0
  exact ⟨rfl, hx, hb⟩

set_option maxHeartbeats 1000000 in
theorem told_hour (w : World) (g : Nat) (y m d hh mi ss : Int) (ov : Value) (n : Nat) (xs : List Value) (h : ToldAt w g y m d hh mi ss ov n xs) (hn : n ≤ 100) (q0 : 0 ≤ hh) (q1 : hh ≤ 99) :
    Calls Tryd.prog 22 #[.pointer (some ⟨g, 0, none⟩)] w (ToldPost w g y m d hh mi ss (n + 2 + (⟨#[58]⟩ : ByteArray).size) (xs ++ dgs hh 2 ++ Lib.strCells ⟨#[58]⟩)) := by
  have hc := blk_cell h.blk 3
  simp only [List.getElem?_toArray, List.getElem?_cons_succ, List.getElem?_cons_zero] at hc
  go_enter Tryd.func22, Tryd.ntmps22
  go_wp2_with ((go_at_call 45; refine (number2 w g y m d hh mi ss ov n xs h hn hh q0 q1 _ (by decide)).mono ?_; rintro e w' ⟨rfl, hx, hb⟩))
  go_end0
  exact ⟨rfl, hx, hb⟩

set_option maxHeartbeats 1000000 in
theorem told_minute (w : World) (g : Nat) (y m d hh mi ss : Int) (ov : Value) (n : Nat) (xs : List Value) (h : ToldAt w g y m d hh mi ss ov n xs) (hn : n ≤ 100) (q0 : 0 ≤ mi) (q1 : mi ≤ 99) :
    Calls Tryd.prog 23 #[.pointer (some ⟨g, 0, none⟩)] w (ToldPost w g y m d hh mi ss (n + 2 + (⟨#[58]⟩ : ByteArray).size) (xs ++ dgs mi 2 ++ Lib.strCells ⟨#[58]⟩)) := by
  have hc := blk_cell h.blk 4
  simp only [List.getElem?_toArray, List.getElem?_cons_succ, List.getElem?_cons_zero] at hc
  go_enter Tryd.func23, Tryd.ntmps23
  go_wp2_with ((go_at_call 45; refine (number2 w g y m d hh mi ss ov n xs h hn mi q0 q1 _ (by decide)).mono ?_; rintro e w' ⟨rfl, hx, hb⟩))
  go_end0
  exact ⟨rfl, hx, hb⟩

set_option maxHeartbeats 1000000 in
theorem told_second (w : World) (g : Nat) (y m d hh mi ss : Int) (ov : Value) (n : Nat) (xs : List Value) (h : ToldAt w g y m d hh mi ss ov n xs) (hn : n ≤ 100) (q0 : 0 ≤ ss) (q1 : ss ≤ 99) :
    Calls Tryd.prog 24 #[.pointer (some ⟨g, 0, none⟩)] w (ToldPost w g y m d hh mi ss (n + 2 + (⟨#[]⟩ : ByteArray).size) (xs ++ dgs ss 2 ++ Lib.strCells ⟨#[]⟩)) := by
  have hc := blk_cell h.blk 5
  simp only [List.getElem?_toArray, List.getElem?_cons_succ, List.getElem?_cons_zero] at hc
  go_enter Tryd.func24, Tryd.ntmps24
  go_wp2_with ((go_at_call 45; refine (number2 w g y m d hh mi ss ov n xs h hn ss q0 q1 _ (by decide)).mono ?_; rintro e w' ⟨rfl, hx, hb⟩))
  go_end0
  exact ⟨rfl, hx, hb⟩
end Go.Proofs.YtpolhepihkbfnaaDoor
