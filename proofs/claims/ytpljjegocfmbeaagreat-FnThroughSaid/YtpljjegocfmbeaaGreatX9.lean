/- slices.Insert: what it answers. -/
import Derived.Test.YtpljjegocfmbeaaGreatX2
namespace Go.VE
def insL {α : Type} (xs : List α) (i : Int) (ys : List α) : List α := xs.take i.toNat ++ ys ++ xs.drop i.toNat
end Go.VE
