/-
  DERIVED. GIVEN WITH THE SEED: THE PROGRAM's TIES (one call each: nine closed facts by the kernel) AND EACH ROW's TIE, after the 31st guide's Derived/Test/Toyas{Tie, Card}.lean. No idea stands in it: it is a product of the set-up. Laid BY PROGRAM, IN A SANDBOX (cutbox-door.mjs). By AI agents, Wed Nov 11 2026. No macro, syntax, notation, axiom, sorry.
-/
import Derived.Test.YtpolhepihkbfnaaDoorRows
import Derived.LaidByTextLater
import Derived.SevenTiedAt
import Derived.LaidSub
import Derived.LaidOnce
namespace Go.Proofs.YtpolhepihkbfnaaDoor
open Go
set_option maxRecDepth 100000
theorem seatTie1 : Tryd.prog.laidByTextLater [("curfew/days.long", Rows.laid_curfew_days_long), ("math/bits.deBruijn64tab", Rows.laid_math_bits_deBruijn64tab), ("curfew/field.ends", Rows.laid_curfew_field_ends)] [.data, .data, .data] true :=
  Program.laidByTextLater_by_one 29 8 65 (by kernel_rfl) (by kernel_rfl) (by kernel_rfl) (by kernel_rfl) (by kernel_rfl) (by kernel_rfl) (fun _ _ => by kernel_rfl)
theorem noOwnUnsafe : Tryd.pinned.checked.prog.headLifts.contains "ownunsafe" = false := by kernel_rfl
theorem tie : Tryd.prog.laidByTextLater [("curfew/days.long", Rows.laid_curfew_days_long)] [.data] true :=
  Program.laidByTextLater.sub seatTie1 ["curfew/days.long"] (by kernel_rfl) (by kernel_rfl)
theorem timesTexts_row_tie : Rows.timesTextsRow.laidByTextAt .later Tryd.pinned [.data] true :=
  OpenClaim.laidByTextAt_later rfl rfl tie noOwnUnsafe
theorem tie2 : Tryd.prog.laidByTextLater [("curfew/days.long", Rows.laid_curfew_days_long), ("math/bits.deBruijn64tab", Rows.laid_math_bits_deBruijn64tab), ("curfew/field.ends", Rows.laid_curfew_field_ends)] [.data, .data, .data] true :=
  Program.laidByTextLater.sub seatTie1 ["curfew/days.long", "math/bits.deBruijn64tab", "curfew/field.ends"] (by kernel_rfl) (by kernel_rfl)
theorem dueRises_row_tie : Rows.dueRisesRow.laidByTextAt .later Tryd.pinned [.data, .data, .data] true :=
  OpenClaim.laidByTextAt_later rfl rfl tie2 noOwnUnsafe
theorem timesTextsUpto_row_tie : Rows.timesTextsUptoRow.laidByTextAt .later Tryd.pinned [.data] true :=
  OpenClaim.laidByTextAt_later rfl rfl tie noOwnUnsafe
theorem dueRisesUpto_row_tie : Rows.dueRisesUptoRow.laidByTextAt .later Tryd.pinned [.data, .data, .data] true :=
  OpenClaim.laidByTextAt_later rfl rfl tie2 noOwnUnsafe
end Go.Proofs.YtpolhepihkbfnaaDoor
