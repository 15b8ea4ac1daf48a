/- Printed by gen2.py: Go functions as Lean functions. -/
import Derived.Test.YtckeihpjfeonmaaGLp
set_option linter.unusedVariables false
namespace Go.GL
def laws_szGateS (p0 : List D.Gate) (p1 : Int) : Option Int :=
  if (decide ((w64 (p1 - (len p0))) < 0)) then
    some (-1)
  else
    some (w64 (p1 - (len p0)))

def laws_szCircuit (p0 : D.Circuit) (p1 : Int) : Option Int :=
  (laws_szGateS p0.Gates p1).bind fun x1 =>
  if (decide (x1 < 0)) then
    some (-1)
  else
    some x1

def laws_toGate (p0 : D.Gate) : Option D.Gate :=
  some p0

def laws_toGateS (n : Nat) (p0 : List D.Gate) : Option (List D.Gate) :=
  (mk? (len p0) ((D.Gate.mk 0 0) : D.Gate)).bind fun x1 =>
  (iterN (fun (s1 : Int × (List D.Gate)) =>
    if (decide (s1.1 < (len p0))) then
      (get? p0 s1.1).bind fun x2 =>
      (laws_toGate x2).bind fun x3 =>
      (set? s1.2 s1.1 x3).bind fun x4 =>
      some (.inl ((w64 (s1.1 + 1)), x4))
    else
      some (.inr (s1.2))
  ) n (0, x1)).bind fun (rl1 : (List D.Gate)) =>
  some rl1

def laws_toCircuit (n : Nat) (p0 : D.Circuit) : Option D.Circuit :=
  (laws_toGateS n p0.Gates).bind fun x1 =>
  some (D.Circuit.mk p0.Inputs x1)

def laws_toIntS (n : Nat) (p0 : List Int) : Option (List Int) :=
  (mk? (len p0) (0 : Int)).bind fun x1 =>
  (iterN (fun (s1 : Int × (List Int)) =>
    if (decide (s1.1 < (len p0))) then
      (get? p0 s1.1).bind fun x2 =>
      (set? s1.2 s1.1 x2).bind fun x3 =>
      some (.inl ((w64 (s1.1 + 1)), x3))
    else
      some (.inr (s1.2))
  ) n (0, x1)).bind fun (rl1 : (List Int)) =>
  some rl1

def spec_l01In (p0 : Int) (p1 : Int) (p2 : Int) : Option Bool :=
  some ((decide (p0 ≥ p1)) && (decide (p0 ≤ p2)))

def spec_l03Abs (p0 : Int) : Option Int :=
  if (decide (p0 < 0)) then
    some (w64 (0 - p0))
  else
    some p0

def spec_CircuitOk (n : Nat) (p0 : D.Circuit) : Option Bool :=
  (spec_l01In p0.Inputs 0 30).bind fun x1 =>
  if ((!x1) || (decide ((len p0.Gates) > 360))) then
    some false
  else
    (iterN (fun (s1 : Int) =>
      if (decide (s1 < (len p0.Gates))) then
        (get? p0.Gates s1).bind fun x2 =>
        (spec_l01In x2.A (w64 (0 - (w64 ((w64 (p0.Inputs + 1)) + s1)))) (w64 ((w64 (p0.Inputs + 1)) + s1))).bind fun x3 =>
        (if (!x3) then some default else (spec_l01In x2.B (w64 (0 - (w64 ((w64 (p0.Inputs + 1)) + s1)))) (w64 ((w64 (p0.Inputs + 1)) + s1)))).bind fun x4 =>
        (if ((!x3) || (!x4)) then some default else (spec_l03Abs x2.A)).bind fun x5 =>
        (if (((!x3) || (!x4)) || (decide (x5 < 2))) then some default else (spec_l03Abs x2.A)).bind fun x6 =>
        (if (((!x3) || (!x4)) || (decide (x5 < 2))) then some default else (spec_l03Abs x2.B)).bind fun x7 =>
        if ((((!x3) || (!x4)) || (decide (x5 < 2))) || (decide (x6 ≥ x7))) then
          some (.inr (.inr false))
        else
          (cut? p0.Gates 0 s1).bind fun x8 =>
          (iterN (fun (s2 : Int) =>
            if (decide (s2 < (len x8))) then
              (get? x8 s2).bind fun x9 =>
              if (decide (x2 = x9)) then
                some (.inr (.inr false))
              else
                some (.inl ((w64 (s2 + 1))))
            else
              some (.inr (.inl ()))
          ) n (0)).bind fun (rl2 : (Unit) ⊕ Bool) =>
          match rl2 with
          | .inl s2r =>
            some (.inl ((w64 (s1 + 1))))
          | .inr v => some (.inr (.inr v))
      else
        some (.inr (.inl ()))
    ) n (0)).bind fun (rl1 : (Unit) ⊕ Bool) =>
    match rl1 with
    | .inl s1r =>
      some true
    | .inr v => some v

def spec_l03Lits (n : Nat) (p0 : List Int) (p1 : Int) : Option Bool :=
  (iterN (fun (s1 : Int) =>
    if (decide (s1 < (len p0))) then
      (get? p0 s1).bind fun x1 =>
      (if (x1 == 0) then some default else (spec_l01In x1 (w64 (0 - p1)) p1)).bind fun x2 =>
      if ((x1 == 0) || (!x2)) then
        some (.inr (.inr false))
      else
        some (.inl ((w64 (s1 + 1))))
    else
      some (.inr (.inl ()))
  ) n (0)).bind fun (rl1 : (Unit) ⊕ Bool) =>
  match rl1 with
  | .inl s1r =>
    some true
  | .inr v => some v

def spec_l04Lits (n : Nat) (p0 : D.Circuit) (p1 : List Int) : Option Bool :=
  (spec_l03Lits n p1 (w64 ((w64 (p0.Inputs + 1)) + (len p0.Gates)))).bind fun x1 =>
  some x1

def spec_l04New (p0 : D.Circuit) : Option D.l04Net :=
  (app? ([] : List D.Gate) p0.Gates).bind fun x1 =>
  some (D.l04Net.mk (D.Circuit.mk p0.Inputs x1) false)

def spec_l04Net_l04And (n : Nat) (p0 : D.l04Net) (p1 : Int) (p2 : Int) : Option (Int × D.l04Net) :=
  if (((p1 == (-1)) || (p2 == (-1))) || (p1 == (w64 (0 - p2)))) then
    some ((-1), p0)
  else
    if (p1 == 1) then
      some (p2, p0)
    else
      if ((p2 == 1) || (p1 == p2)) then
        some (p1, p0)
      else
        (spec_l03Abs p1).bind fun x1 =>
        (spec_l03Abs p2).bind fun x2 =>
        (iterN (fun (s1 : Int) =>
          if (decide (s1 < (len p0.c.Gates))) then
            (get? p0.c.Gates s1).bind fun x3 =>
            if (decide ((D.Gate.mk (cond (decide (x1 > x2)) p2 p1) (cond (decide (x1 > x2)) p1 p2)) = x3)) then
              some (.inr (.inr ((w64 ((w64 (p0.c.Inputs + 2)) + s1)), p0)))
            else
              some (.inl ((w64 (s1 + 1))))
          else
            some (.inr (.inl ()))
        ) n (0)).bind fun (rl1 : (Unit) ⊕ (Int × D.l04Net)) =>
        match rl1 with
        | .inl s1r =>
          if (decide ((len p0.c.Gates) ≥ 360)) then
            some ((-1), (D.l04Net.mk p0.c true))
          else
            (app? p0.c.Gates ([(D.Gate.mk (cond (decide (x1 > x2)) p2 p1) (cond (decide (x1 > x2)) p1 p2))] : List D.Gate)).bind fun x4 =>
            some ((w64 ((w64 (p0.c.Inputs + 1)) + (len x4))), (D.l04Net.mk (D.Circuit.mk p0.c.Inputs x4) p0.full))
        | .inr v => some v

def spec_l04Net_l04Or (n : Nat) (p0 : D.l04Net) (p1 : Int) (p2 : Int) : Option (Int × D.l04Net) :=
  (spec_l04Net_l04And n p0 (w64 (0 - p1)) (w64 (0 - p2))).bind fun x1 =>
  some ((w64 (0 - x1.1)), x1.2)

def spec_l04Net_l04Xor (n : Nat) (p0 : D.l04Net) (p1 : Int) (p2 : Int) : Option (Int × D.l04Net) :=
  (spec_l04Net_l04And n p0 p1 (w64 (0 - p2))).bind fun x1 =>
  (spec_l04Net_l04And n x1.2 (w64 (0 - p1)) p2).bind fun x2 =>
  (spec_l04Net_l04Or n x2.2 x1.1 x2.1).bind fun x3 =>
  some (x3.1, x3.2)

def spec_l04Net_l04Add (n : Nat) (p0 : D.l04Net) (p1 : List Int) (p2 : List Int) (p3 : Int) : Option ((List Int) × Int × D.l04Net) :=
  (iterN (fun (s1 : Int × Int × (List Int) × Int × Bool × (List D.Gate)) =>
    if (decide (s1.2.1 < (len p1))) then
      (get? p1 s1.2.1).bind fun x1 =>
      (get? p2 s1.2.1).bind fun x2 =>
      (spec_l04Net_l04Xor n (D.l04Net.mk (D.Circuit.mk s1.2.2.2.1 s1.2.2.2.2.2) s1.2.2.2.2.1) x1 x2).bind fun x3 =>
      (spec_l04Net_l04Xor n x3.2 x3.1 s1.1).bind fun x4 =>
      (app? s1.2.2.1 ([x4.1] : List Int)).bind fun x5 =>
      (get? p1 s1.2.1).bind fun x6 =>
      (get? p2 s1.2.1).bind fun x7 =>
      (spec_l04Net_l04And n x4.2 x6 x7).bind fun x8 =>
      (spec_l04Net_l04And n x8.2 x3.1 s1.1).bind fun x9 =>
      (spec_l04Net_l04Or n x9.2 x8.1 x9.1).bind fun x10 =>
      some (.inl (x10.1, (w64 (s1.2.1 + 1)), x5, x10.2.c.Inputs, x10.2.full, x10.2.c.Gates))
    else
      some (.inr (s1.1, s1.2.2.1, s1.2.2.2.1, s1.2.2.2.2.1, s1.2.2.2.2.2))
  ) n (p3, 0, ([] : List Int), p0.c.Inputs, p0.full, p0.c.Gates)).bind fun (rl1 : Int × (List Int) × Int × Bool × (List D.Gate)) =>
  some (rl1.2.1, rl1.1, (D.l04Net.mk (D.Circuit.mk rl1.2.2.1 rl1.2.2.2.2) rl1.2.2.2.1))

def spec_AddLits (n : Nat) (p0 : D.Circuit) (p1 : List Int) (p2 : List Int) (p3 : Int) : Option (D.Circuit × (List Int) × Int × Bool) :=
  (spec_CircuitOk n p0).bind fun x1 =>
  (if (((!x1) || ((len p1) != (len p2))) || (decide ((len p1) > 16))) then some default else (spec_l04Lits n p0 p1)).bind fun x2 =>
  (if ((((!x1) || ((len p1) != (len p2))) || (decide ((len p1) > 16))) || (!x2)) then some default else (spec_l04Lits n p0 p2)).bind fun x3 =>
  (if (((((!x1) || ((len p1) != (len p2))) || (decide ((len p1) > 16))) || (!x2)) || (!x3)) then some default else (spec_l04Lits n p0 ([p3] : List Int))).bind fun x4 =>
  if ((((((!x1) || ((len p1) != (len p2))) || (decide ((len p1) > 16))) || (!x2)) || (!x3)) || (!x4)) then
    some ((D.Circuit.mk 0 ([] : List D.Gate)), ([] : List Int), 0, false)
  else
    (spec_l04New p0).bind fun x5 =>
    (spec_l04Net_l04Add n x5 p1 p2 p3).bind fun x6 =>
    if x6.2.2.full then
      some ((D.Circuit.mk 0 ([] : List D.Gate)), ([] : List Int), 0, false)
    else
      some (x6.2.2.c, x6.1, x6.2.1, true)

def impl_isLiteral (p0 : Int) (p1 : Int) : Option Bool :=
  some (((p0 != 0) && (decide (p0 ≥ (w64 (0 - p1))))) && (decide (p0 ≤ p1)))

def impl_varOf (p0 : Int) : Option Int :=
  if (decide (p0 < 0)) then
    some (w64 (0 - p0))
  else
    some p0

def impl_CircuitOk (n : Nat) (p0 : D.Circuit) : Option Bool :=
  if (((decide (p0.Inputs < 0)) || (decide (p0.Inputs > 30))) || (decide ((len p0.Gates) > 360))) then
    some false
  else
    (iterN (fun (s1 : Int × (List (D.Gate × Bool))) =>
      if (decide (s1.1 < (len p0.Gates))) then
        (get? p0.Gates s1.1).bind fun x1 =>
        (impl_isLiteral x1.A (w64 ((w64 (1 + p0.Inputs)) + s1.1))).bind fun x2 =>
        (if (!x2) then some default else (impl_isLiteral x1.B (w64 ((w64 (1 + p0.Inputs)) + s1.1)))).bind fun x3 =>
        (if ((!x2) || (!x3)) then some default else (mget? fitK_Gate (false : Bool) s1.2 x1)).bind fun x4 =>
        if (((!x2) || (!x3)) || x4) then
          some (.inr (.inr false))
        else
          (impl_varOf x1.A).bind fun x5 =>
          (if (decide (x5 < 2)) then some default else (impl_varOf x1.A)).bind fun x6 =>
          (if (decide (x5 < 2)) then some default else (impl_varOf x1.B)).bind fun x7 =>
          if ((decide (x5 < 2)) || (decide (x6 ≥ x7))) then
            some (.inr (.inr false))
          else
            (mput? fitK_Gate s1.2 x1 true).bind fun x8 =>
            some (.inl ((w64 (s1.1 + 1)), x8))
      else
        some (.inr (.inl ()))
    ) n (0, [])).bind fun (rl1 : (Unit) ⊕ Bool) =>
    match rl1 with
    | .inl s1r =>
      some true
    | .inr v => some v

def impl_linesOf (p0 : D.Circuit) : Option Int :=
  some (w64 ((w64 (1 + p0.Inputs)) + (len p0.Gates)))

def impl_literalsOk (n : Nat) (p0 : List Int) (p1 : Int) : Option Bool :=
  (iterN (fun (s1 : Int) =>
    if (decide (s1 < (len p0))) then
      (get? p0 s1).bind fun x1 =>
      (impl_isLiteral x1 p1).bind fun x2 =>
      if (!x2) then
        some (.inr (.inr false))
      else
        some (.inl ((w64 (s1 + 1))))
    else
      some (.inr (.inl ()))
  ) n (0)).bind fun (rl1 : (Unit) ⊕ Bool) =>
  match rl1 with
  | .inl s1r =>
    some true
  | .inr v => some v

def slices_Clone___impl_Gate_impl_Gate_ (p0 : List D.Gate) : Option (List D.Gate) :=
  (app? ([] : List D.Gate) p0).bind fun x1 =>
  some x1

def impl_newBuilder (n : Nat) (p0 : D.Circuit) : Option D.builder :=
  (slices_Clone___impl_Gate_impl_Gate_ p0.Gates).bind fun x1 =>
  (iterN (fun (s1 : Int × (List (D.Gate × Int))) =>
    if (decide (s1.1 < (len p0.Gates))) then
      (get? p0.Gates s1.1).bind fun x2 =>
      (mputE? fitK_Gate fitZ s1.2 x2 (w64 ((w64 (2 + p0.Inputs)) + s1.1))).bind fun x3 =>
      some (.inl ((w64 (s1.1 + 1)), x3))
    else
      some (.inr (s1.2))
  ) n (0, [])).bind fun (rl1 : (List (D.Gate × Int))) =>
  some (D.builder.mk (D.Circuit.mk p0.Inputs x1) rl1 false)

def impl_builder_and (p0 : D.builder) (p1 : Int) (p2 : Int) : Option (Int × D.builder) :=
  if (((p1 == (-1)) || (p2 == (-1))) || (p1 == (w64 (0 - p2)))) then
    some ((-1), p0)
  else
    if (p1 == 1) then
      some (p2, p0)
    else
      if ((p2 == 1) || (p1 == p2)) then
        some (p1, p0)
      else
        (impl_varOf p1).bind fun x1 =>
        (impl_varOf p2).bind fun x2 =>
        if (decide (x1 > x2)) then
          (mget2? fitK_Gate (0 : Int) p0.line (D.Gate.mk p2 p1)).bind fun x3 =>
          if x3.2 then
            some (x3.1, p0)
          else
            if (decide ((len p0.c.Gates) ≥ 360)) then
              some ((-1), (D.builder.mk p0.c p0.line true))
            else
              (app? p0.c.Gates ([(D.Gate.mk p2 p1)] : List D.Gate)).bind fun x4 =>
              (impl_linesOf (D.Circuit.mk p0.c.Inputs x4)).bind fun x5 =>
              (mputE? fitK_Gate fitZ p0.line (D.Gate.mk p2 p1) x5).bind fun x6 =>
              some (x5, (D.builder.mk (D.Circuit.mk p0.c.Inputs x4) x6 p0.full))
        else
          (mget2? fitK_Gate (0 : Int) p0.line (D.Gate.mk p1 p2)).bind fun x7 =>
          if x7.2 then
            some (x7.1, p0)
          else
            if (decide ((len p0.c.Gates) ≥ 360)) then
              some ((-1), (D.builder.mk p0.c p0.line true))
            else
              (app? p0.c.Gates ([(D.Gate.mk p1 p2)] : List D.Gate)).bind fun x8 =>
              (impl_linesOf (D.Circuit.mk p0.c.Inputs x8)).bind fun x9 =>
              (mputE? fitK_Gate fitZ p0.line (D.Gate.mk p1 p2) x9).bind fun x10 =>
              some (x9, (D.builder.mk (D.Circuit.mk p0.c.Inputs x8) x10 p0.full))

def impl_builder_or (p0 : D.builder) (p1 : Int) (p2 : Int) : Option (Int × D.builder) :=
  (impl_builder_and p0 (w64 (0 - p1)) (w64 (0 - p2))).bind fun x1 =>
  some ((w64 (0 - x1.1)), x1.2)

def impl_builder_xor (p0 : D.builder) (p1 : Int) (p2 : Int) : Option (Int × D.builder) :=
  (impl_builder_and p0 p1 (w64 (0 - p2))).bind fun x1 =>
  (impl_builder_and x1.2 (w64 (0 - p1)) p2).bind fun x2 =>
  (impl_builder_or x2.2 x1.1 x2.1).bind fun x3 =>
  some (x3.1, x3.2)

def impl_builder_add (n : Nat) (p0 : D.builder) (p1 : List Int) (p2 : List Int) (p3 : Int) : Option ((List Int) × Int × D.builder) :=
  (mk? (len p1) (0 : Int)).bind fun x1 =>
  (iterN (fun (s1 : Int × Int × (List Int) × Int × Bool × (List D.Gate) × (List (D.Gate × Int))) =>
    if (decide (s1.2.1 < (len p1))) then
      (get? p1 s1.2.1).bind fun x2 =>
      (get? p2 s1.2.1).bind fun x3 =>
      (impl_builder_xor (D.builder.mk (D.Circuit.mk s1.2.2.2.1 s1.2.2.2.2.2.1) s1.2.2.2.2.2.2 s1.2.2.2.2.1) x2 x3).bind fun x4 =>
      (impl_builder_xor x4.2 x4.1 s1.1).bind fun x5 =>
      (set? s1.2.2.1 s1.2.1 x5.1).bind fun x6 =>
      (get? p1 s1.2.1).bind fun x7 =>
      (get? p2 s1.2.1).bind fun x8 =>
      (impl_builder_and x5.2 x7 x8).bind fun x9 =>
      (impl_builder_and x9.2 x4.1 s1.1).bind fun x10 =>
      (impl_builder_or x10.2 x9.1 x10.1).bind fun x11 =>
      some (.inl (x11.1, (w64 (s1.2.1 + 1)), x6, x11.2.c.Inputs, x11.2.full, x11.2.c.Gates, x11.2.line))
    else
      some (.inr (s1.1, s1.2.2.1, s1.2.2.2.1, s1.2.2.2.2.1, s1.2.2.2.2.2.1, s1.2.2.2.2.2.2))
  ) n (p3, 0, x1, p0.c.Inputs, p0.full, p0.c.Gates, p0.line)).bind fun (rl1 : Int × (List Int) × Int × Bool × (List D.Gate) × (List (D.Gate × Int))) =>
  some (rl1.2.1, rl1.1, (D.builder.mk (D.Circuit.mk rl1.2.2.1 rl1.2.2.2.2.1) rl1.2.2.2.2.2 rl1.2.2.2.1))

def impl_AddLits (n : Nat) (p0 : D.Circuit) (p1 : List Int) (p2 : List Int) (p3 : Int) : Option (D.Circuit × (List Int) × Int × Bool) :=
  (impl_CircuitOk n p0).bind fun x1 =>
  if (((!x1) || ((len p1) != (len p2))) || (decide ((len p1) > 16))) then
    some ((D.Circuit.mk 0 ([] : List D.Gate)), ([] : List Int), 0, false)
  else
    (impl_linesOf p0).bind fun x2 =>
    (impl_literalsOk n p1 x2).bind fun x3 =>
    (if (!x3) then some default else (impl_literalsOk n p2 x2)).bind fun x4 =>
    (if ((!x3) || (!x4)) then some default else (impl_isLiteral p3 x2)).bind fun x5 =>
    if (((!x3) || (!x4)) || (!x5)) then
      some ((D.Circuit.mk 0 ([] : List D.Gate)), ([] : List Int), 0, false)
    else
      (impl_newBuilder n p0).bind fun x6 =>
      (impl_builder_add n x6 p1 p2 p3).bind fun x7 =>
      if x7.2.2.full then
        some ((D.Circuit.mk 0 ([] : List D.Gate)), ([] : List Int), 0, false)
      else
        some (x7.2.2.c, x7.1, x7.2.1, true)

def laws_eqGate (p0 : D.Gate) (p1 : D.Gate) : Option Bool :=
  if (p0.A != p1.A) then
    some false
  else
    if (p0.B != p1.B) then
      some false
    else
      some true

def laws_eqGateS (n : Nat) (p0 : List D.Gate) (p1 : List D.Gate) : Option Bool :=
  if ((len p0) != (len p1)) then
    some false
  else
    (iterN (fun (s1 : Int) =>
      if (decide (s1 < (len p0))) then
        (get? p0 s1).bind fun x1 =>
        (get? p1 s1).bind fun x2 =>
        (laws_eqGate x1 x2).bind fun x3 =>
        if (!x3) then
          some (.inr (.inr false))
        else
          some (.inl ((w64 (s1 + 1))))
      else
        some (.inr (.inl ()))
    ) n (0)).bind fun (rl1 : (Unit) ⊕ Bool) =>
    match rl1 with
    | .inl s1r =>
      some true
    | .inr v => some v

def laws_eqCircuit (n : Nat) (p0 : D.Circuit) (p1 : D.Circuit) : Option Bool :=
  if (p0.Inputs != p1.Inputs) then
    some false
  else
    (laws_eqGateS n p0.Gates p1.Gates).bind fun x1 =>
    if (!x1) then
      some false
    else
      some true

def laws_eqIntS (n : Nat) (p0 : List Int) (p1 : List Int) : Option Bool :=
  if ((len p0) != (len p1)) then
    some false
  else
    (iterN (fun (s1 : Int) =>
      if (decide (s1 < (len p0))) then
        (get? p0 s1).bind fun x1 =>
        (get? p1 s1).bind fun x2 =>
        if (x1 != x2) then
          some (.inr (.inr false))
        else
          some (.inl ((w64 (s1 + 1))))
      else
        some (.inr (.inl ()))
    ) n (0)).bind fun (rl1 : (Unit) ⊕ Bool) =>
    match rl1 with
    | .inl s1r =>
      some true
    | .inr v => some v

def laws_markGateS (n : Nat) (p0 : List D.Gate) (p1 : Int) : Option (Int × (List D.Gate)) :=
  (iterN (fun (s1 : Int × Int × (List D.Gate)) =>
    if (decide (s1.2.1 < (len p0))) then
      (get? s1.2.2 s1.2.1).bind fun x1 =>
      (set? s1.2.2 s1.2.1 ({ x1 with A := s1.1 } : D.Gate)).bind fun x2 =>
      (get? x2 s1.2.1).bind fun x3 =>
      (set? x2 s1.2.1 ({ x3 with B := (w64 (s1.1 + 1)) } : D.Gate)).bind fun x4 =>
      some (.inl ((w64 ((w64 (s1.1 + 1)) + 1)), (w64 (s1.2.1 + 1)), x4))
    else
      some (.inr (s1.1, s1.2.2))
  ) n (p1, 0, p0)).bind fun (rl1 : Int × (List D.Gate)) =>
  some (rl1.1, rl1.2)

def laws_markCircuit (n : Nat) (p0 : D.Circuit) (p1 : Int) : Option (Int × D.Circuit) :=
  (laws_markGateS n p0.Gates p1).bind fun x1 =>
  some (x1.1, (D.Circuit.mk p0.Inputs x1.2))

def laws_markIntS (n : Nat) (p0 : List Int) (p1 : Int) : Option (Int × (List Int)) :=
  (iterN (fun (s1 : Int × Int × (List Int)) =>
    if (decide (s1.2.1 < (len p0))) then
      (set? s1.2.2 s1.2.1 s1.1).bind fun x1 =>
      some (.inl ((w64 (s1.1 + 1)), (w64 (s1.2.1 + 1)), x1))
    else
      some (.inr (s1.1, s1.2.2))
  ) n (p1, 0, p0)).bind fun (rl1 : Int × (List Int)) =>
  some (rl1.1, rl1.2)

def laws_heldGateS (n : Nat) (p0 : List D.Gate) (p1 : Int) : Option Int :=
  (iterN (fun (s1 : Int × Int) =>
    if (decide (s1.2 < (len p0))) then
      (get? p0 s1.2).bind fun x1 =>
      if (x1.A != s1.1) then
        some (.inr (.inr (-1)))
      else
        (get? p0 s1.2).bind fun x2 =>
        if (x2.B != (w64 (s1.1 + 1))) then
          some (.inr (.inr (-1)))
        else
          some (.inl ((w64 ((w64 (s1.1 + 1)) + 1)), (w64 (s1.2 + 1))))
    else
      some (.inr (.inl (s1.1)))
  ) n (p1, 0)).bind fun (rl1 : (Int) ⊕ Int) =>
  match rl1 with
  | .inl s1r =>
    some s1r
  | .inr v => some v

def laws_heldCircuit (n : Nat) (p0 : D.Circuit) (p1 : Int) : Option Int :=
  (laws_heldGateS n p0.Gates p1).bind fun x1 =>
  if (decide (x1 < 0)) then
    some (-1)
  else
    some x1

def laws_heldIntS (n : Nat) (p0 : List Int) (p1 : Int) : Option Int :=
  (iterN (fun (s1 : Int × Int) =>
    if (decide (s1.2 < (len p0))) then
      (get? p0 s1.2).bind fun x1 =>
      if (x1 != s1.1) then
        some (.inr (.inr (-1)))
      else
        some (.inl ((w64 (s1.1 + 1)), (w64 (s1.2 + 1))))
    else
      some (.inr (.inl (s1.1)))
  ) n (p1, 0)).bind fun (rl1 : (Int) ⊕ Int) =>
  match rl1 with
  | .inl s1r =>
    some s1r
  | .inr v => some v

def laws_FnExactAddLits (n : Nat) (p0 : D.Circuit) (p1 : List Int) (p2 : List Int) (p3 : Int) : Option Bool :=
  if (decide ((len p1) > 1048576)) then
    some true
  else
    if (decide ((len p2) > 1048576)) then
      some true
    else
      (laws_szCircuit p0 1048576).bind fun x1 =>
      if (decide (x1 < 0)) then
        some true
      else
        (laws_toCircuit n p0).bind fun x2 =>
        (laws_toIntS n p1).bind fun x3 =>
        (laws_toIntS n p2).bind fun x4 =>
        (spec_AddLits n x2 x3 x4 p3).bind fun x5 =>
        (laws_toCircuit n p0).bind fun x6 =>
        (laws_toIntS n p1).bind fun x7 =>
        (laws_toIntS n p2).bind fun x8 =>
        (impl_AddLits n x6 x7 x8 p3).bind fun x9 =>
        (laws_eqCircuit n x9.1 x5.1).bind fun x10 =>
        (if (!x10) then some default else (laws_eqIntS n x9.2.1 x5.2.1)).bind fun x11 =>
        if ((((!x10) || (!x11)) || (x9.2.2.1 != x5.2.2.1)) || (!(x9.2.2.2 == x5.2.2.2))) then
          some false
        else
          (laws_toCircuit n p0).bind fun x12 =>
          (laws_eqCircuit n x6 x12).bind fun x13 =>
          if (!x13) then
            some false
          else
            (laws_toIntS n p1).bind fun x14 =>
            (laws_eqIntS n x7 x14).bind fun x15 =>
            if (!x15) then
              some false
            else
              (laws_toIntS n p2).bind fun x16 =>
              (laws_eqIntS n x8 x16).bind fun x17 =>
              if (!x17) then
                some false
              else
                (laws_markCircuit n x6 1).bind fun x18 =>
                (laws_markIntS n x7 x18.1).bind fun x19 =>
                (laws_markIntS n x8 x19.1).bind fun x20 =>
                (if (decide (x20.1 < 0)) then some default else (laws_eqCircuit n x9.1 x5.1)).bind fun x21 =>
                (if ((decide (x20.1 < 0)) || (!x21)) then some default else (laws_eqIntS n x9.2.1 x5.2.1)).bind fun x22 =>
                if (((((decide (x20.1 < 0)) || (!x21)) || (!x22)) || (x9.2.2.1 != x5.2.2.1)) || (!(x9.2.2.2 == x5.2.2.2))) then
                  some false
                else
                  (laws_markCircuit n x9.1 1).bind fun x23 =>
                  (laws_markIntS n x9.2.1 x23.1).bind fun x24 =>
                  (laws_heldCircuit n (D.Circuit.mk x9.1.Inputs x23.2.Gates) 1).bind fun x25 =>
                  if (decide (x25 < 0)) then
                    some false
                  else
                    (laws_heldIntS n x24.2 x25).bind fun x26 =>
                    if (decide (x26 < 0)) then
                      some false
                    else
                      if (x26 != x24.1) then
                        some false
                      else
                        (laws_toCircuit n p0).bind fun x27 =>
                        (laws_toIntS n p1).bind fun x28 =>
                        (laws_toIntS n p2).bind fun x29 =>
                        (impl_AddLits n x27 x28 x29 p3).bind fun x30 =>
                        (laws_eqCircuit n x30.1 x5.1).bind fun x31 =>
                        (if (!x31) then some default else (laws_eqIntS n x30.2.1 x5.2.1)).bind fun x32 =>
                        if ((((!x31) || (!x32)) || (x30.2.2.1 != x5.2.2.1)) || (!(x30.2.2.2 == x5.2.2.2))) then
                          some false
                        else
                          (laws_heldCircuit n (D.Circuit.mk x9.1.Inputs x23.2.Gates) 1).bind fun x33 =>
                          if (decide (x33 < 0)) then
                            some false
                          else
                            (laws_heldIntS n x24.2 x33).bind fun x34 =>
                            if (decide (x34 < 0)) then
                              some false
                            else
                              if (x34 != x24.1) then
                                some false
                              else
                                some true
end Go.GL
