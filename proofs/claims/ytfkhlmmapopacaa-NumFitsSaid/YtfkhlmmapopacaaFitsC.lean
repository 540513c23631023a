/- NumFits: all cases. -/
import Derived.Test.YtfkhlmmapopacaaFitsB
namespace Go.Proofs.Ytfkhlmmapopacaa.Sx
open Go Go.RowKit
set_option linter.unusedVariables false
set_option maxRecDepth 100000
section
variable (η : Env) (h : η.fi = fitsF) (hA : ok (fK.den η) (kW (fK.den η) (η.i 1))) (hB : ok (fK.den η) (kW (fK.den η) (η.i 2)))
include h hA hB
theorem fz00 (hx : sgF 0 (fK.den η) (kW (fK.den η) (η.i 1)) (kW (fK.den η) (η.i 2)) = 0) (hy : sgF 3 (fK.den η) (kW (fK.den η) (η.i 1)) (kW (fK.den η) (η.i 2)) = 0) : ∀ p q z, FitYes η false p q false z
  | false, false, false => fy00000 η h hA hB hx hy
  | false, false, true => fy00001 η h hA hB hx hy
  | false, true, false => fy00100 η h hA hB hx hy
  | false, true, true => fy00101 η h hA hB hx hy
  | true, false, false => fy01000 η h hA hB hx hy
  | true, false, true => fy01001 η h hA hB hx hy
  | true, true, false => fy01100 η h hA hB hx hy
  | true, true, true => fy01101 η h hA hB hx hy
theorem fz01 (hx : sgF 0 (fK.den η) (kW (fK.den η) (η.i 1)) (kW (fK.den η) (η.i 2)) = 0) (hy : ¬ sgF 3 (fK.den η) (kW (fK.den η) (η.i 1)) (kW (fK.den η) (η.i 2)) = 0) : ∀ p q z, FitYes η false p q true z
  | false, false, false => fy00010 η h hA hB hx hy
  | false, false, true => fy00011 η h hA hB hx hy
  | false, true, false => fy00110 η h hA hB hx hy
  | false, true, true => fy00111 η h hA hB hx hy
  | true, false, false => fy01010 η h hA hB hx hy
  | true, false, true => fy01011 η h hA hB hx hy
  | true, true, false => fy01110 η h hA hB hx hy
  | true, true, true => fy01111 η h hA hB hx hy
theorem fz10 (hx : ¬ sgF 0 (fK.den η) (kW (fK.den η) (η.i 1)) (kW (fK.den η) (η.i 2)) = 0) (hy : sgF 3 (fK.den η) (kW (fK.den η) (η.i 1)) (kW (fK.den η) (η.i 2)) = 0) : ∀ p q z, FitYes η true p q false z
  | false, false, false => fy10000 η h hA hB hx hy
  | false, false, true => fy10001 η h hA hB hx hy
  | false, true, false => fy10100 η h hA hB hx hy
  | false, true, true => fy10101 η h hA hB hx hy
  | true, false, false => fy11000 η h hA hB hx hy
  | true, false, true => fy11001 η h hA hB hx hy
  | true, true, false => fy11100 η h hA hB hx hy
  | true, true, true => fy11101 η h hA hB hx hy
theorem fz11 (hx : ¬ sgF 0 (fK.den η) (kW (fK.den η) (η.i 1)) (kW (fK.den η) (η.i 2)) = 0) (hy : ¬ sgF 3 (fK.den η) (kW (fK.den η) (η.i 1)) (kW (fK.den η) (η.i 2)) = 0) : ∀ p q z, FitYes η true p q true z
  | false, false, false => fy10010 η h hA hB hx hy
  | false, false, true => fy10011 η h hA hB hx hy
  | false, true, false => fy10110 η h hA hB hx hy
  | false, true, true => fy10111 η h hA hB hx hy
  | true, false, false => fy11010 η h hA hB hx hy
  | true, false, true => fy11011 η h hA hB hx hy
  | true, true, false => fy11110 η h hA hB hx hy
  | true, true, true => fy11111 η h hA hB hx hy
theorem fits_yes (x p q y z : Bool) (hx : x = true ↔ ¬ sgF 0 (fK.den η) (kW (fK.den η) (η.i 1)) (kW (fK.den η) (η.i 2)) = 0) (hy : y = true ↔ ¬ sgF 3 (fK.den η) (kW (fK.den η) (η.i 1)) (kW (fK.den η) (η.i 2)) = 0) : FitYes η x p q y z := by
  by_cases ex : sgF 0 (fK.den η) (kW (fK.den η) (η.i 1)) (kW (fK.den η) (η.i 2)) = 0
  · have e1 : x = false := by
      cases e : x with
      | false => rfl
      | true => exact absurd ex (hx.1 e)
    by_cases ey : sgF 3 (fK.den η) (kW (fK.den η) (η.i 1)) (kW (fK.den η) (η.i 2)) = 0
    · have e2 : y = false := by
        cases e : y with
        | false => rfl
        | true => exact absurd ey (hy.1 e)
      rw [e1, e2]; exact fz00 η h hA hB ex ey p q z
    · rw [e1, hy.2 ey]; exact fz01 η h hA hB ex ey p q z
  · by_cases ey : sgF 3 (fK.den η) (kW (fK.den η) (η.i 1)) (kW (fK.den η) (η.i 2)) = 0
    · have e2 : y = false := by
        cases e : y with
        | false => rfl
        | true => exact absurd ey (hy.1 e)
      rw [hx.2 ex, e2]; exact fz10 η h hA hB ex ey p q z
    · rw [hx.2 ex, hy.2 ey]; exact fz11 η h hA hB ex ey p q z
end
end Go.Proofs.Ytfkhlmmapopacaa.Sx
