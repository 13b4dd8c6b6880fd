/- Plain laws: numbers and texts that are read. -/
import Derived.Test.YteolgjmeigifbaaBeginR9
namespace Go.VE
noncomputable section
set_option linter.unusedVariables false
set_option linter.unusedSimpArgs false
set_option maxRecDepth 100000
/-! ### a number's bytes -/
def encN (n : Nat) : List Int := if n > 127 then ((n % 128 + 128 : Nat) : Int) :: encN (n / 128) else [(n : Int)]
  termination_by n
  decreasing_by omega
def rvF (i n : Nat) : List Int → Option (Nat × Nat)
  | [] => none
  | c :: l => if 5 ≤ i then none else
      if c < 128 then (if n + (c.toNat % 128) * 128 ^ i ≤ 1000000000 ∧ (encN (n + (c.toNat % 128) * 128 ^ i)).length = i + 1 then some (n + (c.toNat % 128) * 128 ^ i, i + 1) else none)
      else rvF (i + 1) (n + (c.toNat % 128) * 128 ^ i) l
def rvR (a : Nat) : Option (Nat × Nat) → Int × Int × Bool
  | none => (0, 0, false)
  | some (n, c) => ((n : Int), ((a + c : Nat) : Int), true)
def v2d (s : ByteArray) (a : Int) : Int × Int × Bool :=
  bif vbp a 0 (s.size : Int) then rvR a.toNat (rvF 0 0 ((vcs s).drop a.toNat)) else (0, 0, false)
def numB (s : ByteArray) (a : Int) (b : Bool) : Int × Int × Bool :=
  bif b then ((0 : Int), a, true) else bif !(v2d s a).2.2 then ((0 : Int), a, true) else ((v2d s a).1, (v2d s a).2.1, b)
def nx (s : ByteArray) (p : Int × Int × Bool) : Int × Int × Bool := numB s p.2.1 p.2.2
end
end Go.VE
