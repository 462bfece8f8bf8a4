/- The closed example that each statement of this seat asks of the program besides: it answers true. No condition. -/
import Derived.Test.YtodchgddkgjciaaApart
namespace Go.Proofs.Ytodchgddkgjciaa
set_option linter.unusedVariables false
set_option linter.unusedSimpArgs false
open Go Go.RowKit
theorem al_say (w : World) : Calls Try.prog 18 #[.string ⟨#[51, 49, 49, 51]⟩] w fun e w' => e = .returned (.tuple #[.string ⟨#[49, 51, 50, 49, 49, 51]⟩, .int .i64 0]) ∧ Below w.heap.size w w' := by
  have := Say_any ⟨#[51, 49, 49, 51]⟩ w (by decide)
  rwa [show sayE (ls ⟨#[51, 49, 49, 51]⟩) = .ok [49, 51, 50, 49, 49, 51] from by rfl] at this
theorem al_days (w : World) : Calls Try.prog 27 #[.string ⟨#[49]⟩, .int .i64 5] w fun e w' => e = .returned (.tuple #[.string ⟨#[51, 49, 50, 50, 49, 49]⟩, .int .i64 0]) ∧ Below w.heap.size w w' := by
  have := Days_any ⟨#[49]⟩ 5 w (by decide)
  rwa [show daysE 5 (ls ⟨#[49]⟩) = .ok [51, 49, 50, 50, 49, 49] from by rfl] at this
theorem al_before (w : World) : Calls Try.prog 20 #[.string ⟨#[51, 49, 50, 50, 49, 49]⟩] w fun e w' => e = .returned (.tuple #[.string ⟨#[49, 49, 49, 50, 50, 49]⟩, .int .i64 0]) ∧ Below w.heap.size w w' := by
  have := Before_any ⟨#[51, 49, 50, 50, 49, 49]⟩ w (by decide)
  rwa [show beforeE (ls ⟨#[51, 49, 50, 50, 49, 49]⟩) = .ok [49, 49, 49, 50, 50, 49] from by rfl] at this
theorem al_none (w : World) : Calls Try.prog 20 #[.string ⟨#[49, 49, 49, 49]⟩] w fun e w' => e = .returned (.tuple #[.string ⟨#[]⟩, .int .i64 10]) ∧ Below w.heap.size w w' := by
  have := Before_any ⟨#[49, 49, 49, 49]⟩ w (by decide)
  rwa [show beforeE (ls ⟨#[49, 49, 49, 49]⟩) = .error 10 from by rfl] at this
theorem al_age (w : World) : Calls Try.prog 22 #[.string ⟨#[51, 49, 50, 50, 49, 49]⟩] w fun e w' => e = .returned (.tuple #[.int .i64 5, .int .i64 0]) ∧ Below w.heap.size w w' := by
  have := Age_any ⟨#[51, 49, 50, 50, 49, 49]⟩ w (by decide)
  rwa [show ageE (ls ⟨#[51, 49, 50, 50, 49, 49]⟩) = .ok 5 from by rfl] at this
theorem al_apart (w : World) : Calls Try.prog 24 #[.string ⟨#[52]⟩, .string ⟨#[49]⟩, .int .i64 10] w fun e w' => e = .returned (.tuple #[.bool true, .int .i64 0]) ∧ Below w.heap.size w w' := by
  have := Apart_any ⟨#[52]⟩ ⟨#[49]⟩ 10 w (by decide) (by decide)
  rwa [show apartE (ls ⟨#[52]⟩) (ls ⟨#[49]⟩) 10 = .ok true from by rfl] at this
theorem al_touch (w : World) : Calls Try.prog 24 #[.string ⟨#[50]⟩, .string ⟨#[49]⟩, .int .i64 3] w fun e w' => e = .returned (.tuple #[.bool false, .int .i64 0]) ∧ Below w.heap.size w w' := by
  have := Apart_any ⟨#[50]⟩ ⟨#[49]⟩ 3 w (by decide) (by decide)
  rwa [show apartE (ls ⟨#[50]⟩) (ls ⟨#[49]⟩) 3 = .ok false from by rfl] at this
theorem next_below {a b c : World} (h : Below a.heap.size a b) (k : Below b.heap.size b c) : Below a.heap.size a c := h.trans (k.mono h.size)
set_option maxHeartbeats 1000000 in
theorem alive_any (w : World) : Calls Try.prog 17 #[] w fun e w' => e = .returned (.bool true) ∧ Below w.heap.size w w' := by
  go_enter Try.func17, Try.ntmps17
  go_wp2_with fail
  (with_reducible refine (al_say _).mono ?_); rintro e w1 ⟨rfl, hb⟩; have HB1 := Lib.hid hb; clear hb
  go_wp2_with fail
  (with_reducible refine (al_days _).mono ?_); rintro e w2 ⟨rfl, hb⟩; have HB2 := Lib.hid hb; clear hb
  go_wp2_with fail
  (with_reducible refine (al_before _).mono ?_); rintro e w3 ⟨rfl, hb⟩; have HB3 := Lib.hid hb; clear hb
  go_wp2_with fail
  (with_reducible refine (al_none _).mono ?_); rintro e w4 ⟨rfl, hb⟩; have HB4 := Lib.hid hb; clear hb
  go_wp2_with fail
  (with_reducible refine (al_age _).mono ?_); rintro e w5 ⟨rfl, hb⟩; have HB5 := Lib.hid hb; clear hb
  go_wp2_with fail
  (with_reducible refine (al_apart _).mono ?_); rintro e w6 ⟨rfl, hb⟩; have HB6 := Lib.hid hb; clear hb
  go_wp2_with fail
  (with_reducible refine (al_touch _).mono ?_); rintro e w7 ⟨rfl, hb⟩; have HB7 := Lib.hid hb; clear hb
  go_wp2
  go_ret
  refine ⟨?_, next_below HB1.out <| next_below HB2.out <| next_below HB3.out <| next_below HB4.out <| next_below HB5.out <| next_below HB6.out HB7.out⟩
  rfl
end Go.Proofs.Ytodchgddkgjciaa
