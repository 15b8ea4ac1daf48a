/- Printed by gen2.py: Go functions as Lean functions. -/
import Derived.Test.YtfccdlggophhoaaGLp
set_option linter.unusedVariables false
namespace Go.GL
def laws_szGateS (p0 : List D.Gate) (p1 : Int) : Option Int :=
  if (decide ((w64 (p1 - (len p0))) < 0)) then
    some (-1)
  else
    some (w64 (p1 - (len p0)))

def laws_szCircuit (p0 : D.Circuit) (p1 : Int) : Option Int :=
  (laws_szGateS p0.Gates p1).bind fun x1 =>
  if (decide (x1 < 0)) then
    some (-1)
  else
    some x1

def laws_toGate (p0 : D.Gate) : Option D.Gate :=
  some p0

def laws_toGateS (n : Nat) (p0 : List D.Gate) : Option (List D.Gate) :=
  (mk? (len p0) ((D.Gate.mk 0 0) : D.Gate)).bind fun x1 =>
  (iterN (fun (s1 : Int × (List D.Gate)) =>
    if (decide (s1.1 < (len p0))) then
      (get? p0 s1.1).bind fun x2 =>
      (laws_toGate x2).bind fun x3 =>
      (set? s1.2 s1.1 x3).bind fun x4 =>
      some (.inl ((w64 (s1.1 + 1)), x4))
    else
      some (.inr (s1.2))
  ) n (0, x1)).bind fun (rl1 : (List D.Gate)) =>
  some rl1

def laws_toCircuit (n : Nat) (p0 : D.Circuit) : Option D.Circuit :=
  (laws_toGateS n p0.Gates).bind fun x1 =>
  some (D.Circuit.mk p0.Inputs x1)

def laws_toBoolS (n : Nat) (p0 : List Bool) : Option (List Bool) :=
  (mk? (len p0) (false : Bool)).bind fun x1 =>
  (iterN (fun (s1 : Int × (List Bool)) =>
    if (decide (s1.1 < (len p0))) then
      (get? p0 s1.1).bind fun x2 =>
      (set? s1.2 s1.1 x2).bind fun x3 =>
      some (.inl ((w64 (s1.1 + 1)), x3))
    else
      some (.inr (s1.2))
  ) n (0, x1)).bind fun (rl1 : (List Bool)) =>
  some rl1

def spec_l01In (p0 : Int) (p1 : Int) (p2 : Int) : Option Bool :=
  some ((decide (p0 ≥ p1)) && (decide (p0 ≤ p2)))

def spec_l03Abs (p0 : Int) : Option Int :=
  if (decide (p0 < 0)) then
    some (w64 (0 - p0))
  else
    some p0

def spec_CircuitOk (n : Nat) (p0 : D.Circuit) : Option Bool :=
  (spec_l01In p0.Inputs 0 30).bind fun x1 =>
  if ((!x1) || (decide ((len p0.Gates) > 360))) then
    some false
  else
    (iterN (fun (s1 : Int) =>
      if (decide (s1 < (len p0.Gates))) then
        (get? p0.Gates s1).bind fun x2 =>
        (spec_l01In x2.A (w64 (0 - (w64 ((w64 (p0.Inputs + 1)) + s1)))) (w64 ((w64 (p0.Inputs + 1)) + s1))).bind fun x3 =>
        (if (!x3) then some default else (spec_l01In x2.B (w64 (0 - (w64 ((w64 (p0.Inputs + 1)) + s1)))) (w64 ((w64 (p0.Inputs + 1)) + s1)))).bind fun x4 =>
        (if ((!x3) || (!x4)) then some default else (spec_l03Abs x2.A)).bind fun x5 =>
        (if (((!x3) || (!x4)) || (decide (x5 < 2))) then some default else (spec_l03Abs x2.A)).bind fun x6 =>
        (if (((!x3) || (!x4)) || (decide (x5 < 2))) then some default else (spec_l03Abs x2.B)).bind fun x7 =>
        if ((((!x3) || (!x4)) || (decide (x5 < 2))) || (decide (x6 ≥ x7))) then
          some (.inr (.inr false))
        else
          (cut? p0.Gates 0 s1).bind fun x8 =>
          (iterN (fun (s2 : Int) =>
            if (decide (s2 < (len x8))) then
              (get? x8 s2).bind fun x9 =>
              if (decide (x2 = x9)) then
                some (.inr (.inr false))
              else
                some (.inl ((w64 (s2 + 1))))
            else
              some (.inr (.inl ()))
          ) n (0)).bind fun (rl2 : (Unit) ⊕ Bool) =>
          match rl2 with
          | .inl s2r =>
            some (.inl ((w64 (s1 + 1))))
          | .inr v => some (.inr (.inr v))
      else
        some (.inr (.inl ()))
    ) n (0)).bind fun (rl1 : (Unit) ⊕ Bool) =>
    match rl1 with
    | .inl s1r =>
      some true
    | .inr v => some v

def spec_l04True (p0 : List Bool) (p1 : Int) : Option Bool :=
  (spec_l03Abs p1).bind fun x1 =>
  (get? p0 (w64 (x1 - 1))).bind fun x2 =>
  some (x2 == (decide (p1 > 0)))

def spec_EvalCircuit (n : Nat) (p0 : D.Circuit) (p1 : List Bool) : Option (List Bool) :=
  (spec_CircuitOk n p0).bind fun x1 =>
  if ((!x1) || ((len p1) != p0.Inputs)) then
    some ([] : List Bool)
  else
    (app? ([true] : List Bool) p1).bind fun x2 =>
    (iterN (fun (s1 : Int × (List Bool)) =>
      if (decide (s1.1 < (len p0.Gates))) then
        (get? p0.Gates s1.1).bind fun x3 =>
        (spec_l04True s1.2 x3.A).bind fun x4 =>
        (if x4 then (spec_l04True s1.2 x3.B) else some default).bind fun x5 =>
        (app? s1.2 ([(x4 && x5)] : List Bool)).bind fun x6 =>
        some (.inl ((w64 (s1.1 + 1)), x6))
      else
        some (.inr (s1.2))
    ) n (0, x2)).bind fun (rl1 : (List Bool)) =>
    some rl1

def impl_isLiteral (p0 : Int) (p1 : Int) : Option Bool :=
  some (((p0 != 0) && (decide (p0 ≥ (w64 (0 - p1))))) && (decide (p0 ≤ p1)))

def impl_varOf (p0 : Int) : Option Int :=
  if (decide (p0 < 0)) then
    some (w64 (0 - p0))
  else
    some p0

def impl_CircuitOk (n : Nat) (p0 : D.Circuit) : Option Bool :=
  if (((decide (p0.Inputs < 0)) || (decide (p0.Inputs > 30))) || (decide ((len p0.Gates) > 360))) then
    some false
  else
    (iterN (fun (s1 : Int × (List (D.Gate × Bool))) =>
      if (decide (s1.1 < (len p0.Gates))) then
        (get? p0.Gates s1.1).bind fun x1 =>
        (impl_isLiteral x1.A (w64 ((w64 (1 + p0.Inputs)) + s1.1))).bind fun x2 =>
        (if (!x2) then some default else (impl_isLiteral x1.B (w64 ((w64 (1 + p0.Inputs)) + s1.1)))).bind fun x3 =>
        (if ((!x2) || (!x3)) then some default else (mget? fitK_Gate (false : Bool) s1.2 x1)).bind fun x4 =>
        if (((!x2) || (!x3)) || x4) then
          some (.inr (.inr false))
        else
          (impl_varOf x1.A).bind fun x5 =>
          (if (decide (x5 < 2)) then some default else (impl_varOf x1.A)).bind fun x6 =>
          (if (decide (x5 < 2)) then some default else (impl_varOf x1.B)).bind fun x7 =>
          if ((decide (x5 < 2)) || (decide (x6 ≥ x7))) then
            some (.inr (.inr false))
          else
            (mput? fitK_Gate s1.2 x1 true).bind fun x8 =>
            some (.inl ((w64 (s1.1 + 1)), x8))
      else
        some (.inr (.inl ()))
    ) n (0, [])).bind fun (rl1 : (Unit) ⊕ Bool) =>
    match rl1 with
    | .inl s1r =>
      some true
    | .inr v => some v

def impl_litTrue (p0 : List Bool) (p1 : Int) : Option Bool :=
  if (decide (p1 < 0)) then
    (get? p0 (w64 ((w64 (0 - p1)) - 1))).bind fun x1 =>
    some (!x1)
  else
    (get? p0 (w64 (p1 - 1))).bind fun x2 =>
    some x2

def impl_EvalCircuit (n : Nat) (p0 : D.Circuit) (p1 : List Bool) : Option (List Bool) :=
  (impl_CircuitOk n p0).bind fun x1 =>
  if ((!x1) || ((len p1) != p0.Inputs)) then
    some ([] : List Bool)
  else
    (app? ([true] : List Bool) p1).bind fun x2 =>
    (iterN (fun (s1 : Int × (List Bool)) =>
      if (decide (s1.1 < (len p0.Gates))) then
        (get? p0.Gates s1.1).bind fun x3 =>
        (impl_litTrue s1.2 x3.A).bind fun x4 =>
        (if x4 then (impl_litTrue s1.2 x3.B) else some default).bind fun x5 =>
        (app? s1.2 ([(x4 && x5)] : List Bool)).bind fun x6 =>
        some (.inl ((w64 (s1.1 + 1)), x6))
      else
        some (.inr (s1.2))
    ) n (0, x2)).bind fun (rl1 : (List Bool)) =>
    some rl1

def laws_eqBoolS (n : Nat) (p0 : List Bool) (p1 : List Bool) : Option Bool :=
  if ((len p0) != (len p1)) then
    some false
  else
    (iterN (fun (s1 : Int) =>
      if (decide (s1 < (len p0))) then
        (get? p0 s1).bind fun x1 =>
        (get? p1 s1).bind fun x2 =>
        if (!(x1 == x2)) then
          some (.inr (.inr false))
        else
          some (.inl ((w64 (s1 + 1))))
      else
        some (.inr (.inl ()))
    ) n (0)).bind fun (rl1 : (Unit) ⊕ Bool) =>
    match rl1 with
    | .inl s1r =>
      some true
    | .inr v => some v

def laws_eqGate (p0 : D.Gate) (p1 : D.Gate) : Option Bool :=
  if (p0.A != p1.A) then
    some false
  else
    if (p0.B != p1.B) then
      some false
    else
      some true

def laws_eqGateS (n : Nat) (p0 : List D.Gate) (p1 : List D.Gate) : Option Bool :=
  if ((len p0) != (len p1)) then
    some false
  else
    (iterN (fun (s1 : Int) =>
      if (decide (s1 < (len p0))) then
        (get? p0 s1).bind fun x1 =>
        (get? p1 s1).bind fun x2 =>
        (laws_eqGate x1 x2).bind fun x3 =>
        if (!x3) then
          some (.inr (.inr false))
        else
          some (.inl ((w64 (s1 + 1))))
      else
        some (.inr (.inl ()))
    ) n (0)).bind fun (rl1 : (Unit) ⊕ Bool) =>
    match rl1 with
    | .inl s1r =>
      some true
    | .inr v => some v

def laws_eqCircuit (n : Nat) (p0 : D.Circuit) (p1 : D.Circuit) : Option Bool :=
  if (p0.Inputs != p1.Inputs) then
    some false
  else
    (laws_eqGateS n p0.Gates p1.Gates).bind fun x1 =>
    if (!x1) then
      some false
    else
      some true

def laws_markGateS (n : Nat) (p0 : List D.Gate) (p1 : Int) : Option (Int × (List D.Gate)) :=
  (iterN (fun (s1 : Int × Int × (List D.Gate)) =>
    if (decide (s1.2.1 < (len p0))) then
      (get? s1.2.2 s1.2.1).bind fun x1 =>
      (set? s1.2.2 s1.2.1 ({ x1 with A := s1.1 } : D.Gate)).bind fun x2 =>
      (get? x2 s1.2.1).bind fun x3 =>
      (set? x2 s1.2.1 ({ x3 with B := (w64 (s1.1 + 1)) } : D.Gate)).bind fun x4 =>
      some (.inl ((w64 ((w64 (s1.1 + 1)) + 1)), (w64 (s1.2.1 + 1)), x4))
    else
      some (.inr (s1.1, s1.2.2))
  ) n (p1, 0, p0)).bind fun (rl1 : Int × (List D.Gate)) =>
  some (rl1.1, rl1.2)

def laws_markCircuit (n : Nat) (p0 : D.Circuit) (p1 : Int) : Option (Int × D.Circuit) :=
  (laws_markGateS n p0.Gates p1).bind fun x1 =>
  some (x1.1, (D.Circuit.mk p0.Inputs x1.2))

def laws_markBoolS (n : Nat) (p0 : List Bool) (p1 : Int) : Option (Int × (List Bool)) :=
  (iterN (fun (s1 : Int × Int × (List Bool)) =>
    if (decide (s1.2.1 < (len p0))) then
      (rem? s1.1 3).bind fun x1 =>
      (set? s1.2.2 s1.2.1 (x1 == 0)).bind fun x2 =>
      some (.inl ((w64 (s1.1 + 1)), (w64 (s1.2.1 + 1)), x2))
    else
      some (.inr (s1.1, s1.2.2))
  ) n (p1, 0, p0)).bind fun (rl1 : Int × (List Bool)) =>
  some (rl1.1, rl1.2)

def laws_heldBoolS (n : Nat) (p0 : List Bool) (p1 : Int) : Option Int :=
  (iterN (fun (s1 : Int × Int) =>
    if (decide (s1.2 < (len p0))) then
      (get? p0 s1.2).bind fun x1 =>
      (rem? s1.1 3).bind fun x2 =>
      if (!(x1 == (x2 == 0))) then
        some (.inr (.inr (-1)))
      else
        some (.inl ((w64 (s1.1 + 1)), (w64 (s1.2 + 1))))
    else
      some (.inr (.inl (s1.1)))
  ) n (p1, 0)).bind fun (rl1 : (Int) ⊕ Int) =>
  match rl1 with
  | .inl s1r =>
    some s1r
  | .inr v => some v

def laws_FnExactEvalCircuit (n : Nat) (p0 : D.Circuit) (p1 : List Bool) : Option Bool :=
  if (decide ((len p1) > 1048576)) then
    some true
  else
    (laws_szCircuit p0 1048576).bind fun x1 =>
    if (decide (x1 < 0)) then
      some true
    else
      (laws_toCircuit n p0).bind fun x2 =>
      (laws_toBoolS n p1).bind fun x3 =>
      (spec_EvalCircuit n x2 x3).bind fun x4 =>
      (laws_toCircuit n p0).bind fun x5 =>
      (laws_toBoolS n p1).bind fun x6 =>
      (impl_EvalCircuit n x5 x6).bind fun x7 =>
      (laws_eqBoolS n x7 x4).bind fun x8 =>
      if (!x8) then
        some false
      else
        (laws_toCircuit n p0).bind fun x9 =>
        (laws_eqCircuit n x5 x9).bind fun x10 =>
        if (!x10) then
          some false
        else
          (laws_toBoolS n p1).bind fun x11 =>
          (laws_eqBoolS n x6 x11).bind fun x12 =>
          if (!x12) then
            some false
          else
            (laws_markCircuit n x5 1).bind fun x13 =>
            (laws_markBoolS n x6 x13.1).bind fun x14 =>
            (if (decide (x14.1 < 0)) then some default else (laws_eqBoolS n x7 x4)).bind fun x15 =>
            if ((decide (x14.1 < 0)) || (!x15)) then
              some false
            else
              (laws_markBoolS n x7 1).bind fun x16 =>
              (laws_heldBoolS n x16.2 1).bind fun x17 =>
              if (decide (x17 < 0)) then
                some false
              else
                if (x17 != x16.1) then
                  some false
                else
                  (laws_toCircuit n p0).bind fun x18 =>
                  (laws_toBoolS n p1).bind fun x19 =>
                  (impl_EvalCircuit n x18 x19).bind fun x20 =>
                  (laws_eqBoolS n x20 x4).bind fun x21 =>
                  if (!x21) then
                    some false
                  else
                    (laws_heldBoolS n x16.2 1).bind fun x22 =>
                    if (decide (x22 < 0)) then
                      some false
                    else
                      if (x22 != x16.1) then
                        some false
                      else
                        some true
end Go.GL
