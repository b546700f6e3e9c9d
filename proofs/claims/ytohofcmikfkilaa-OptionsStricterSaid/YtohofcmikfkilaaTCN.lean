/- Group N of this claim's texts: walks and plain laws. -/
import Derived.Test.YtohofcmikfkilaaRows
import Derived.Test.YtohofcmikfkilaaTCJ
import Derived.Test.YtohofcmikfkilaaTCM
import Derived.Test.YtohofcmikfkilaaTCH
/- Counts of opposite and joined formulas; what is listed: plain laws. -/
namespace Go.Proofs.Ytohofcmikfkilaa
set_option linter.unusedVariables false
structure ExaC (m : Mo) (f g : List Int) : Prop where
  ey : m.errF [[-1]] = 0
  en : m.errF [-3 :: f] = 0
  eo : m.errF [-5 :: f ++ g] = 0
  ea : m.errF [-4 :: f ++ g] = 0
  c1 : cntE m f + cntE m (-3 :: f) = cntE m [-1]
  c2 : cntE m (-5 :: f ++ g) + cntE m (-4 :: f ++ g) = cntE m f + cntE m g
structure ExaA (m : Mo) (f : List Int) (y : List Bool) : Prop where
  len : y.length = m.opts.length
  be : buiE m y = 0
  bb : buiB m y = true
  he : holE m f y = 0
  hb : holB m f y = true
  fe : digE m f = 0 → folE m (digK m f) (digR m f) y = 0
  fb : digE m f = 0 → folB m (digK m f) (digR m f) y = true
end Go.Proofs.Ytohofcmikfkilaa
