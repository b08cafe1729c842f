/-
  My own small words for the walks of this seat: a world that is as another one below that one's end; a region that draws its order, over such worlds.
-/
import Derived.Test.YtpolhepihkbfnaaDoorProg
import Derived.WalkKit
import Derived.WalkSpells
import Derived.WalkLawsBesides
import Derived.BigQuiet
import Derived.Lib.Hide
import Derived.Deep.QuietTactic
namespace Go.Proofs.YtpolhepihkbfnaaDoor
set_option linter.unusedVariables false
set_option linter.unusedSimpArgs false
open Go.RowKit

/-- A world that is as W below W's own end. -/
def Up (W : World) := { w0 : World // Below W.heap.size W w0 }
instance upNonempty (W : World) : Nonempty (Up W) := ⟨⟨W, Below.refl _ _⟩⟩
theorem Up.cell {W : World} {p : Addr} {v : Value} (h : W.cell? p = some v) (hp : p.block < W.heap.size) (d : Up W) : d.1.cell? p = some v :=
  (d.2.cell hp).trans h

/-- What lies below W's end reads in a world of the class as it does in W. -/
theorem Up.at_ {W : World} (u : Up W) (p : Addr) (hp : p.block < W.heap.size) : u.1.cell? p = W.cell? p := u.2.cell hp
theorem Up.new {w : World} {o : Obj} (u : Up (w.alloc o)) (i : Nat) : u.1.cell? ⟨w.heap.size, i, none⟩ = (w.alloc o).cell? ⟨w.heap.size, i, none⟩ := u.2.cell (by simp)
theorem Up.newF {w : World} {o : Obj} (u : Up (w.alloc o)) (i : Nat) : u.1.frozen? ⟨w.heap.size, i, none⟩ = (w.alloc o).frozen? ⟨w.heap.size, i, none⟩ := u.2.frozen (by simp)
theorem Up.size_lt {w : World} {o : Obj} (u : Up (w.alloc o)) : w.heap.size < u.1.heap.size := by have := u.2.size; simp at this; omega
theorem Up.box {w : World} {o : Obj} (u : Up (w.alloc o)) : Below w.heap.size w u.1 := ((Below.refl _ _).alloc (Nat.le_refl _) _).trans (u.2.mono (by simp))
/-- Back from a world above a new block of a world of the class. -/
def Up.down {W : World} {u : Up W} {o : Obj} (v : Up (u.1.alloc o)) : Up W := ⟨v.1, (u.2.alloc u.2.size _).trans (v.2.mono (by have := u.2.size; simp; omega))⟩
theorem ret_int {k : IntKind} {a b : Int} (h : a = b) : Ending.returned (.int k a) = .returned (.int k b) := by rw [h]
theorem ret_bool {a b : Bool} (h : a = b) : Ending.returned (.bool a) = .returned (.bool b) := by rw [h]
theorem ret2_int {k k' : IntKind} {a b c d : Int} (h : a = c) (h' : b = d) : Ending.returned (.tuple #[.int k a, .int k' b]) = .returned (.tuple #[.int k c, .int k' d]) := by rw [h, h']
theorem ret2_int_bool {k : IntKind} {a c : Int} {b d : Bool} (h : a = c) (h' : b = d) : Ending.returned (.tuple #[.int k a, .bool b]) = .returned (.tuple #[.int k c, .bool d]) := by rw [h, h']
/-- An error's number: 0 where all is well. -/
def okI (b : Bool) (e : Int) : Int := if b = true then 0 else e
theorem okI_true (e : Int) : okI true e = 0 := rfl
theorem okI_false (e : Int) : okI false e = e := rfl

section
variable {P : Program} {Q : Exit → Act → World → Prop} {a : Act} {W : World} {l : List Oper}
theorem wp_region_up {id : Nat} (hm : P.follows .mixedOrders = true) (hB : Region.lexB .any l.toArray = true)
    (h : wpQuiet P l.toArray (fun w' => ∃ d : Up W, w' = d.1) (fun a' => ∀ w', (∃ d : Up W, w' = d.1) → Q .normal a' w') l a) : (Code.region id l.toArray true).wp P Q a W :=
  wp_region_quiet (C := fun w' => ∃ d : Up W, w' = d.1) hm hB ⟨⟨W.drew, (Below.refl _ _).drew⟩, rfl⟩ (by simpa using h)
theorem wp_region_upu {u : Up W} {id : Nat} (hm : P.follows .mixedOrders = true) (hB : Region.lexB .any l.toArray = true)
    (h : wpQuiet P l.toArray (fun w' => ∃ d : Up W, w' = d.1) (fun a' => ∀ w', (∃ d : Up W, w' = d.1) → Q .normal a' w') l a) : (Code.region id l.toArray true).wp P Q a u.1 :=
  wp_region_quiet (C := fun w' => ∃ d : Up W, w' = d.1) hm hB ⟨⟨u.1.drew, u.2.drew⟩, rfl⟩ (by simpa using h)
theorem wp_up {c : Code} (h : ∀ u : Up W, c.wp P Q a u.1) : c.wp P Q a W := h ⟨W, Below.refl _ _⟩
theorem Calls.toUp {f : FuncId} {args : Array Value} {v : Value}
    (h : Calls P f args W fun e w' => e = .returned v ∧ Below W.heap.size W w') : Calls P f args W fun e w'' => e = .returned v ∧ ∃ m : Up W, w'' = m.1 :=
  h.mono fun _ _ ⟨he, hb⟩ => ⟨he, ⟨_, hb⟩, rfl⟩
theorem Calls.up_of {f : FuncId} {args : Array Value} {d : Up W} {v : Value}
    (h : Calls P f args d.1 fun e w' => e = .returned v ∧ Below d.1.heap.size d.1 w') : Calls P f args d.1 fun e w'' => e = .returned v ∧ ∃ m : Up W, w'' = m.1 :=
  h.mono fun _ _ ⟨he, hb⟩ => ⟨he, ⟨_, d.2.trans (hb.mono d.2.size)⟩, rfl⟩
theorem Calls.up_same {f : FuncId} {args : Array Value} {d : Up W} {v : Value}
    (h : Calls P f args d.1 fun e w' => e = .returned v ∧ d.1 = w') : Calls P f args d.1 fun e w'' => e = .returned v ∧ ∃ m : Up W, w'' = m.1 :=
  h.mono fun _ _ ⟨he, hb⟩ => ⟨he, d, hb.symm⟩
/-- The walk goes on over a world of which only facts are known. -/
theorem wp_facts {c : Code} (F : World → Prop) (hF : F W) (h : ∀ W1, F W1 → c.wp P Q a W1) : c.wp P Q a W := h W hF
end
end Go.Proofs.YtpolhepihkbfnaaDoor
