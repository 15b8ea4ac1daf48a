/- Printed by gen2.py: Go functions as Lean functions. -/
import Derived.Test.YtckeihpjfeonmaaGLp
set_option linter.unusedVariables false
namespace Go.GL
def laws_szGateS (p0 : List D.Gate) (p1 : Int) : Option Int :=
  if (decide ((w64 (p1 - (len p0))) < 0)) then
    some (-1)
  else
    some (w64 (p1 - (len p0)))

def laws_szCircuit (p0 : D.Circuit) (p1 : Int) : Option Int :=
  (laws_szGateS p0.Gates p1).bind fun x1 =>
  if (decide (x1 < 0)) then
    some (-1)
  else
    some x1

def laws_toGate (p0 : D.Gate) : Option D.Gate :=
  some p0

def laws_toGateS (n : Nat) (p0 : List D.Gate) : Option (List D.Gate) :=
  (mk? (len p0) ((D.Gate.mk 0 0) : D.Gate)).bind fun x1 =>
  (iterN (fun (s1 : Int × (List D.Gate)) =>
    if (decide (s1.1 < (len p0))) then
      (get? p0 s1.1).bind fun x2 =>
      (laws_toGate x2).bind fun x3 =>
      (set? s1.2 s1.1 x3).bind fun x4 =>
      some (.inl ((w64 (s1.1 + 1)), x4))
    else
      some (.inr (s1.2))
  ) n (0, x1)).bind fun (rl1 : (List D.Gate)) =>
  some rl1

def laws_toCircuit (n : Nat) (p0 : D.Circuit) : Option D.Circuit :=
  (laws_toGateS n p0.Gates).bind fun x1 =>
  some (D.Circuit.mk p0.Inputs x1)

def spec_l01In (p0 : Int) (p1 : Int) (p2 : Int) : Option Bool :=
  some ((decide (p0 ≥ p1)) && (decide (p0 ≤ p2)))

def spec_l03Abs (p0 : Int) : Option Int :=
  if (decide (p0 < 0)) then
    some (w64 (0 - p0))
  else
    some p0

def spec_CircuitOk (n : Nat) (p0 : D.Circuit) : Option Bool :=
  (spec_l01In p0.Inputs 0 30).bind fun x1 =>
  if ((!x1) || (decide ((len p0.Gates) > 360))) then
    some false
  else
    (iterN (fun (s1 : Int) =>
      if (decide (s1 < (len p0.Gates))) then
        (get? p0.Gates s1).bind fun x2 =>
        (spec_l01In x2.A (w64 (0 - (w64 ((w64 (p0.Inputs + 1)) + s1)))) (w64 ((w64 (p0.Inputs + 1)) + s1))).bind fun x3 =>
        (if (!x3) then some default else (spec_l01In x2.B (w64 (0 - (w64 ((w64 (p0.Inputs + 1)) + s1)))) (w64 ((w64 (p0.Inputs + 1)) + s1)))).bind fun x4 =>
        (if ((!x3) || (!x4)) then some default else (spec_l03Abs x2.A)).bind fun x5 =>
        (if (((!x3) || (!x4)) || (decide (x5 < 2))) then some default else (spec_l03Abs x2.A)).bind fun x6 =>
        (if (((!x3) || (!x4)) || (decide (x5 < 2))) then some default else (spec_l03Abs x2.B)).bind fun x7 =>
        if ((((!x3) || (!x4)) || (decide (x5 < 2))) || (decide (x6 ≥ x7))) then
          some (.inr (.inr false))
        else
          (cut? p0.Gates 0 s1).bind fun x8 =>
          (iterN (fun (s2 : Int) =>
            if (decide (s2 < (len x8))) then
              (get? x8 s2).bind fun x9 =>
              if (decide (x2 = x9)) then
                some (.inr (.inr false))
              else
                some (.inl ((w64 (s2 + 1))))
            else
              some (.inr (.inl ()))
          ) n (0)).bind fun (rl2 : (Unit) ⊕ Bool) =>
          match rl2 with
          | .inl s2r =>
            some (.inl ((w64 (s1 + 1))))
          | .inr v => some (.inr (.inr v))
      else
        some (.inr (.inl ()))
    ) n (0)).bind fun (rl1 : (Unit) ⊕ Bool) =>
    match rl1 with
    | .inl s1r =>
      some true
    | .inr v => some v

def spec_l03Lits (n : Nat) (p0 : List Int) (p1 : Int) : Option Bool :=
  (iterN (fun (s1 : Int) =>
    if (decide (s1 < (len p0))) then
      (get? p0 s1).bind fun x1 =>
      (if (x1 == 0) then some default else (spec_l01In x1 (w64 (0 - p1)) p1)).bind fun x2 =>
      if ((x1 == 0) || (!x2)) then
        some (.inr (.inr false))
      else
        some (.inl ((w64 (s1 + 1))))
    else
      some (.inr (.inl ()))
  ) n (0)).bind fun (rl1 : (Unit) ⊕ Bool) =>
  match rl1 with
  | .inl s1r =>
    some true
  | .inr v => some v

def spec_l04Lits (n : Nat) (p0 : D.Circuit) (p1 : List Int) : Option Bool :=
  (spec_l03Lits n p1 (w64 ((w64 (p0.Inputs + 1)) + (len p0.Gates)))).bind fun x1 =>
  some x1

def spec_l04New (p0 : D.Circuit) : Option D.l04Net :=
  (app? ([] : List D.Gate) p0.Gates).bind fun x1 =>
  some (D.l04Net.mk (D.Circuit.mk p0.Inputs x1) false)

def spec_l04Net_l04And (n : Nat) (p0 : D.l04Net) (p1 : Int) (p2 : Int) : Option (Int × D.l04Net) :=
  if (((p1 == (-1)) || (p2 == (-1))) || (p1 == (w64 (0 - p2)))) then
    some ((-1), p0)
  else
    if (p1 == 1) then
      some (p2, p0)
    else
      if ((p2 == 1) || (p1 == p2)) then
        some (p1, p0)
      else
        (spec_l03Abs p1).bind fun x1 =>
        (spec_l03Abs p2).bind fun x2 =>
        (iterN (fun (s1 : Int) =>
          if (decide (s1 < (len p0.c.Gates))) then
            (get? p0.c.Gates s1).bind fun x3 =>
            if (decide ((D.Gate.mk (cond (decide (x1 > x2)) p2 p1) (cond (decide (x1 > x2)) p1 p2)) = x3)) then
              some (.inr (.inr ((w64 ((w64 (p0.c.Inputs + 2)) + s1)), p0)))
            else
              some (.inl ((w64 (s1 + 1))))
          else
            some (.inr (.inl ()))
        ) n (0)).bind fun (rl1 : (Unit) ⊕ (Int × D.l04Net)) =>
        match rl1 with
        | .inl s1r =>
          if (decide ((len p0.c.Gates) ≥ 360)) then
            some ((-1), (D.l04Net.mk p0.c true))
          else
            (app? p0.c.Gates ([(D.Gate.mk (cond (decide (x1 > x2)) p2 p1) (cond (decide (x1 > x2)) p1 p2))] : List D.Gate)).bind fun x4 =>
            some ((w64 ((w64 (p0.c.Inputs + 1)) + (len x4))), (D.l04Net.mk (D.Circuit.mk p0.c.Inputs x4) p0.full))
        | .inr v => some v

def spec_l04Net_l04Or (n : Nat) (p0 : D.l04Net) (p1 : Int) (p2 : Int) : Option (Int × D.l04Net) :=
  (spec_l04Net_l04And n p0 (w64 (0 - p1)) (w64 (0 - p2))).bind fun x1 =>
  some ((w64 (0 - x1.1)), x1.2)

def spec_l04Net_l04Xor (n : Nat) (p0 : D.l04Net) (p1 : Int) (p2 : Int) : Option (Int × D.l04Net) :=
  (spec_l04Net_l04And n p0 p1 (w64 (0 - p2))).bind fun x1 =>
  (spec_l04Net_l04And n x1.2 (w64 (0 - p1)) p2).bind fun x2 =>
  (spec_l04Net_l04Or n x2.2 x1.1 x2.1).bind fun x3 =>
  some (x3.1, x3.2)

def spec_l04Out (p0 : D.l04Net) (p1 : Int) : Option (D.Circuit × Int × Bool) :=
  if p0.full then
    some ((D.Circuit.mk 0 ([] : List D.Gate)), 0, false)
  else
    some (p0.c, p1, true)

def spec_XorOf (n : Nat) (p0 : D.Circuit) (p1 : Int) (p2 : Int) : Option (D.Circuit × Int × Bool) :=
  (spec_CircuitOk n p0).bind fun x1 =>
  (if (!x1) then some default else (spec_l04Lits n p0 ([p1, p2] : List Int))).bind fun x2 =>
  if ((!x1) || (!x2)) then
    some ((D.Circuit.mk 0 ([] : List D.Gate)), 0, false)
  else
    (spec_l04New p0).bind fun x3 =>
    (spec_l04Net_l04Xor n x3 p1 p2).bind fun x4 =>
    (spec_l04Out x4.2 x4.1).bind fun x5 =>
    some (x5.1, x5.2.1, x5.2.2)

def impl_varOf (p0 : Int) : Option Int :=
  if (decide (p0 < 0)) then
    some (w64 (0 - p0))
  else
    some p0

def impl_linesOf (p0 : D.Circuit) : Option Int :=
  some (w64 ((w64 (1 + p0.Inputs)) + (len p0.Gates)))

def impl_builder_and (p0 : D.builder) (p1 : Int) (p2 : Int) : Option (Int × D.builder) :=
  if (((p1 == (-1)) || (p2 == (-1))) || (p1 == (w64 (0 - p2)))) then
    some ((-1), p0)
  else
    if (p1 == 1) then
      some (p2, p0)
    else
      if ((p2 == 1) || (p1 == p2)) then
        some (p1, p0)
      else
        (impl_varOf p1).bind fun x1 =>
        (impl_varOf p2).bind fun x2 =>
        if (decide (x1 > x2)) then
          (mget2? fitK_Gate (0 : Int) p0.line (D.Gate.mk p2 p1)).bind fun x3 =>
          if x3.2 then
            some (x3.1, p0)
          else
            if (decide ((len p0.c.Gates) ≥ 360)) then
              some ((-1), (D.builder.mk p0.c p0.line true))
            else
              (app? p0.c.Gates ([(D.Gate.mk p2 p1)] : List D.Gate)).bind fun x4 =>
              (impl_linesOf (D.Circuit.mk p0.c.Inputs x4)).bind fun x5 =>
              (mputE? fitK_Gate fitZ p0.line (D.Gate.mk p2 p1) x5).bind fun x6 =>
              some (x5, (D.builder.mk (D.Circuit.mk p0.c.Inputs x4) x6 p0.full))
        else
          (mget2? fitK_Gate (0 : Int) p0.line (D.Gate.mk p1 p2)).bind fun x7 =>
          if x7.2 then
            some (x7.1, p0)
          else
            if (decide ((len p0.c.Gates) ≥ 360)) then
              some ((-1), (D.builder.mk p0.c p0.line true))
            else
              (app? p0.c.Gates ([(D.Gate.mk p1 p2)] : List D.Gate)).bind fun x8 =>
              (impl_linesOf (D.Circuit.mk p0.c.Inputs x8)).bind fun x9 =>
              (mputE? fitK_Gate fitZ p0.line (D.Gate.mk p1 p2) x9).bind fun x10 =>
              some (x9, (D.builder.mk (D.Circuit.mk p0.c.Inputs x8) x10 p0.full))

def impl_builder_or (p0 : D.builder) (p1 : Int) (p2 : Int) : Option (Int × D.builder) :=
  (impl_builder_and p0 (w64 (0 - p1)) (w64 (0 - p2))).bind fun x1 =>
  some ((w64 (0 - x1.1)), x1.2)

def impl_builder_xor (p0 : D.builder) (p1 : Int) (p2 : Int) : Option (Int × D.builder) :=
  (impl_builder_and p0 p1 (w64 (0 - p2))).bind fun x1 =>
  (impl_builder_and x1.2 (w64 (0 - p1)) p2).bind fun x2 =>
  (impl_builder_or x2.2 x1.1 x2.1).bind fun x3 =>
  some (x3.1, x3.2)

def impl_isLiteral (p0 : Int) (p1 : Int) : Option Bool :=
  some (((p0 != 0) && (decide (p0 ≥ (w64 (0 - p1))))) && (decide (p0 ≤ p1)))

def impl_CircuitOk (n : Nat) (p0 : D.Circuit) : Option Bool :=
  if (((decide (p0.Inputs < 0)) || (decide (p0.Inputs > 30))) || (decide ((len p0.Gates) > 360))) then
    some false
  else
    (iterN (fun (s1 : Int × (List (D.Gate × Bool))) =>
      if (decide (s1.1 < (len p0.Gates))) then
        (get? p0.Gates s1.1).bind fun x1 =>
        (impl_isLiteral x1.A (w64 ((w64 (1 + p0.Inputs)) + s1.1))).bind fun x2 =>
        (if (!x2) then some default else (impl_isLiteral x1.B (w64 ((w64 (1 + p0.Inputs)) + s1.1)))).bind fun x3 =>
        (if ((!x2) || (!x3)) then some default else (mget? fitK_Gate (false : Bool) s1.2 x1)).bind fun x4 =>
        if (((!x2) || (!x3)) || x4) then
          some (.inr (.inr false))
        else
          (impl_varOf x1.A).bind fun x5 =>
          (if (decide (x5 < 2)) then some default else (impl_varOf x1.A)).bind fun x6 =>
          (if (decide (x5 < 2)) then some default else (impl_varOf x1.B)).bind fun x7 =>
          if ((decide (x5 < 2)) || (decide (x6 ≥ x7))) then
            some (.inr (.inr false))
          else
            (mput? fitK_Gate s1.2 x1 true).bind fun x8 =>
            some (.inl ((w64 (s1.1 + 1)), x8))
      else
        some (.inr (.inl ()))
    ) n (0, [])).bind fun (rl1 : (Unit) ⊕ Bool) =>
    match rl1 with
    | .inl s1r =>
      some true
    | .inr v => some v

def impl_literalsOk (n : Nat) (p0 : List Int) (p1 : Int) : Option Bool :=
  (iterN (fun (s1 : Int) =>
    if (decide (s1 < (len p0))) then
      (get? p0 s1).bind fun x1 =>
      (impl_isLiteral x1 p1).bind fun x2 =>
      if (!x2) then
        some (.inr (.inr false))
      else
        some (.inl ((w64 (s1 + 1))))
    else
      some (.inr (.inl ()))
  ) n (0)).bind fun (rl1 : (Unit) ⊕ Bool) =>
  match rl1 with
  | .inl s1r =>
    some true
  | .inr v => some v

def slices_Clone___impl_Gate_impl_Gate_ (p0 : List D.Gate) : Option (List D.Gate) :=
  (app? ([] : List D.Gate) p0).bind fun x1 =>
  some x1

def impl_newBuilder (n : Nat) (p0 : D.Circuit) : Option D.builder :=
  (slices_Clone___impl_Gate_impl_Gate_ p0.Gates).bind fun x1 =>
  (iterN (fun (s1 : Int × (List (D.Gate × Int))) =>
    if (decide (s1.1 < (len p0.Gates))) then
      (get? p0.Gates s1.1).bind fun x2 =>
      (mputE? fitK_Gate fitZ s1.2 x2 (w64 ((w64 (2 + p0.Inputs)) + s1.1))).bind fun x3 =>
      some (.inl ((w64 (s1.1 + 1)), x3))
    else
      some (.inr (s1.2))
  ) n (0, [])).bind fun (rl1 : (List (D.Gate × Int))) =>
  some (D.builder.mk (D.Circuit.mk p0.Inputs x1) rl1 false)

def impl_XorOf_1 (p0 : D.builder) (p1 : Int) (p2 : Int) : Option (Int × D.builder) :=
  (impl_builder_xor p0 p1 p2).bind fun x1 =>
  some (x1.1, x1.2)

def impl_gateOf__impl_XorOf_1 (n : Nat) (p0 : D.Circuit) (p1 : List Int) (p3 : Int) (p4 : Int) : Option (D.Circuit × Int × Bool) :=
  (impl_CircuitOk n p0).bind fun x1 =>
  (if (!x1) then some default else (impl_linesOf p0)).bind fun x2 =>
  (if (!x1) then some default else (impl_literalsOk n p1 x2)).bind fun x3 =>
  if ((!x1) || (!x3)) then
    some ((D.Circuit.mk 0 ([] : List D.Gate)), 0, false)
  else
    (impl_newBuilder n p0).bind fun x4 =>
    (impl_XorOf_1 x4 p3 p4).bind fun x5 =>
    if x5.2.full then
      some ((D.Circuit.mk 0 ([] : List D.Gate)), 0, false)
    else
      some (x5.2.c, x5.1, true)

def impl_XorOf (n : Nat) (p0 : D.Circuit) (p1 : Int) (p2 : Int) : Option (D.Circuit × Int × Bool) :=
  (impl_gateOf__impl_XorOf_1 n p0 ([p1, p2] : List Int) p1 p2).bind fun x1 =>
  some (x1.1, x1.2.1, x1.2.2)

def laws_eqGate (p0 : D.Gate) (p1 : D.Gate) : Option Bool :=
  if (p0.A != p1.A) then
    some false
  else
    if (p0.B != p1.B) then
      some false
    else
      some true

def laws_eqGateS (n : Nat) (p0 : List D.Gate) (p1 : List D.Gate) : Option Bool :=
  if ((len p0) != (len p1)) then
    some false
  else
    (iterN (fun (s1 : Int) =>
      if (decide (s1 < (len p0))) then
        (get? p0 s1).bind fun x1 =>
        (get? p1 s1).bind fun x2 =>
        (laws_eqGate x1 x2).bind fun x3 =>
        if (!x3) then
          some (.inr (.inr false))
        else
          some (.inl ((w64 (s1 + 1))))
      else
        some (.inr (.inl ()))
    ) n (0)).bind fun (rl1 : (Unit) ⊕ Bool) =>
    match rl1 with
    | .inl s1r =>
      some true
    | .inr v => some v

def laws_eqCircuit (n : Nat) (p0 : D.Circuit) (p1 : D.Circuit) : Option Bool :=
  if (p0.Inputs != p1.Inputs) then
    some false
  else
    (laws_eqGateS n p0.Gates p1.Gates).bind fun x1 =>
    if (!x1) then
      some false
    else
      some true

def laws_markGateS (n : Nat) (p0 : List D.Gate) (p1 : Int) : Option (Int × (List D.Gate)) :=
  (iterN (fun (s1 : Int × Int × (List D.Gate)) =>
    if (decide (s1.2.1 < (len p0))) then
      (get? s1.2.2 s1.2.1).bind fun x1 =>
      (set? s1.2.2 s1.2.1 ({ x1 with A := s1.1 } : D.Gate)).bind fun x2 =>
      (get? x2 s1.2.1).bind fun x3 =>
      (set? x2 s1.2.1 ({ x3 with B := (w64 (s1.1 + 1)) } : D.Gate)).bind fun x4 =>
      some (.inl ((w64 ((w64 (s1.1 + 1)) + 1)), (w64 (s1.2.1 + 1)), x4))
    else
      some (.inr (s1.1, s1.2.2))
  ) n (p1, 0, p0)).bind fun (rl1 : Int × (List D.Gate)) =>
  some (rl1.1, rl1.2)

def laws_markCircuit (n : Nat) (p0 : D.Circuit) (p1 : Int) : Option (Int × D.Circuit) :=
  (laws_markGateS n p0.Gates p1).bind fun x1 =>
  some (x1.1, (D.Circuit.mk p0.Inputs x1.2))

def laws_heldGateS (n : Nat) (p0 : List D.Gate) (p1 : Int) : Option Int :=
  (iterN (fun (s1 : Int × Int) =>
    if (decide (s1.2 < (len p0))) then
      (get? p0 s1.2).bind fun x1 =>
      if (x1.A != s1.1) then
        some (.inr (.inr (-1)))
      else
        (get? p0 s1.2).bind fun x2 =>
        if (x2.B != (w64 (s1.1 + 1))) then
          some (.inr (.inr (-1)))
        else
          some (.inl ((w64 ((w64 (s1.1 + 1)) + 1)), (w64 (s1.2 + 1))))
    else
      some (.inr (.inl (s1.1)))
  ) n (p1, 0)).bind fun (rl1 : (Int) ⊕ Int) =>
  match rl1 with
  | .inl s1r =>
    some s1r
  | .inr v => some v

def laws_heldCircuit (n : Nat) (p0 : D.Circuit) (p1 : Int) : Option Int :=
  (laws_heldGateS n p0.Gates p1).bind fun x1 =>
  if (decide (x1 < 0)) then
    some (-1)
  else
    some x1

def laws_FnExactXorOf (n : Nat) (p0 : D.Circuit) (p1 : Int) (p2 : Int) : Option Bool :=
  (laws_szCircuit p0 1048576).bind fun x1 =>
  if (decide (x1 < 0)) then
    some true
  else
    (laws_toCircuit n p0).bind fun x2 =>
    (spec_XorOf n x2 p1 p2).bind fun x3 =>
    (laws_toCircuit n p0).bind fun x4 =>
    (impl_XorOf n x4 p1 p2).bind fun x5 =>
    (laws_eqCircuit n x5.1 x3.1).bind fun x6 =>
    if (((!x6) || (x5.2.1 != x3.2.1)) || (!(x5.2.2 == x3.2.2))) then
      some false
    else
      (laws_toCircuit n p0).bind fun x7 =>
      (laws_eqCircuit n x4 x7).bind fun x8 =>
      if (!x8) then
        some false
      else
        (laws_markCircuit n x4 1).bind fun x9 =>
        (if (decide (x9.1 < 0)) then some default else (laws_eqCircuit n x5.1 x3.1)).bind fun x10 =>
        if ((((decide (x9.1 < 0)) || (!x10)) || (x5.2.1 != x3.2.1)) || (!(x5.2.2 == x3.2.2))) then
          some false
        else
          (laws_markCircuit n x5.1 1).bind fun x11 =>
          (laws_heldCircuit n (D.Circuit.mk x5.1.Inputs x11.2.Gates) 1).bind fun x12 =>
          if (decide (x12 < 0)) then
            some false
          else
            if (x12 != x11.1) then
              some false
            else
              (laws_toCircuit n p0).bind fun x13 =>
              (impl_XorOf n x13 p1 p2).bind fun x14 =>
              (laws_eqCircuit n x14.1 x3.1).bind fun x15 =>
              if (((!x15) || (x14.2.1 != x3.2.1)) || (!(x14.2.2 == x3.2.2))) then
                some false
              else
                (laws_heldCircuit n (D.Circuit.mk x5.1.Inputs x11.2.Gates) 1).bind fun x16 =>
                if (decide (x16 < 0)) then
                  some false
                else
                  if (x16 != x11.1) then
                    some false
                  else
                    some true
end Go.GL
