/- Printed by gen2.py: Go functions as Lean functions. -/
import Derived.Test.YtckeihpjfeonmaaGLp
set_option linter.unusedVariables false
namespace Go.GL
def spec_l01New (n : Nat) (p0 : List Byt) : Option D.l01Cur :=
  (iterN (fun (s1 : Int × Int) =>
    if ((decide (s1.2 < (len p0))) && (decide (s1.2 < 4000))) then
      (get? p0 s1.2).bind fun x1 =>
      some (.inl ((band (w64 ((w64 ((w64 (s1.1 * 131)) + (w64 x1.n))) + 7)) 1073741823), (w64 (s1.2 + 1))))
    else
      some (.inr (s1.1))
  ) n ((w64 (55127 + (len p0))), 0)).bind fun (rl1 : Int) =>
  some (D.l01Cur.mk p0 0 rl1)

def spec_l11At (n : Nat) (p0 : List Byt) (p1 : Int) : Option D.l01Cur :=
  (spec_l01New n p0).bind fun x1 =>
  some (D.l01Cur.mk p0 (imin p1 (len p0)) (band (w64 ((w64 ((w64 (x1.h * 31)) + (w64 (p1 * 7919)))) + 1)) 1073741823))

def spec_l01Byte (p0 : D.l01Cur) : Option (Int × D.l01Cur) :=
  (shr? (w64 ((w64 (p0.h * 6364136223846793005)) + 1442695040888963407)) 33).bind fun x1 =>
  (shr? (w64 ((w64 (p0.h * 6364136223846793005)) + 1442695040888963407)) 45).bind fun x2 =>
  if (decide (p0.i < (len p0.b))) then
    (get? p0.b p0.i).bind fun x3 =>
    some ((band (w64 ((band (bxor x1 x2) 255) + (w64 x3.n))) 255), (D.l01Cur.mk p0.b (w64 (p0.i + 1)) (w64 ((w64 (p0.h * 6364136223846793005)) + 1442695040888963407))))
  else
    some ((band (bxor x1 x2) 255), (D.l01Cur.mk p0.b p0.i (w64 ((w64 (p0.h * 6364136223846793005)) + 1442695040888963407))))

def spec_l01Below (p0 : D.l01Cur) (p1 : Int) : Option (Int × D.l01Cur) :=
  if (decide (p1 ≤ 0)) then
    some (0, p0)
  else
    (spec_l01Byte p0).bind fun x1 =>
    (rem? x1.1 p1).bind fun x2 =>
    some (x2, (D.l01Cur.mk p0.b x1.2.i x1.2.h))

def spec_l04New (p0 : D.Circuit) : Option D.l04Net :=
  (app? ([] : List D.Gate) p0.Gates).bind fun x1 =>
  some (D.l04Net.mk (D.Circuit.mk p0.Inputs x1) false)

def spec_l01Once (p0 : D.l01Cur) (p1 : Int) : Option (Bool × D.l01Cur) :=
  (spec_l01Below p0 p1).bind fun x1 =>
  some ((x1.1 == 0), (D.l01Cur.mk p0.b x1.2.i x1.2.h))

def spec_l04Lit (p0 : D.l01Cur) (p1 : D.Circuit) : Option (Int × D.l01Cur) :=
  (spec_l01Below p0 (w64 ((w64 (p1.Inputs + 1)) + (len p1.Gates)))).bind fun x1 =>
  (spec_l01Once (D.l01Cur.mk p0.b x1.2.i x1.2.h) 2).bind fun x2 =>
  if x2.1 then
    some ((w64 (0 - (w64 (1 + x1.1)))), (D.l01Cur.mk p0.b x2.2.i x2.2.h))
  else
    some ((w64 (1 + x1.1)), (D.l01Cur.mk p0.b x2.2.i x2.2.h))

def spec_l03Abs (p0 : Int) : Option Int :=
  if (decide (p0 < 0)) then
    some (w64 (0 - p0))
  else
    some p0

def spec_l04Net_l04And (n : Nat) (p0 : D.l04Net) (p1 : Int) (p2 : Int) : Option (Int × D.l04Net) :=
  if (((p1 == (-1)) || (p2 == (-1))) || (p1 == (w64 (0 - p2)))) then
    some ((-1), p0)
  else
    if (p1 == 1) then
      some (p2, p0)
    else
      if ((p2 == 1) || (p1 == p2)) then
        some (p1, p0)
      else
        (spec_l03Abs p1).bind fun x1 =>
        (spec_l03Abs p2).bind fun x2 =>
        (iterN (fun (s1 : Int) =>
          if (decide (s1 < (len p0.c.Gates))) then
            (get? p0.c.Gates s1).bind fun x3 =>
            if (decide ((D.Gate.mk (cond (decide (x1 > x2)) p2 p1) (cond (decide (x1 > x2)) p1 p2)) = x3)) then
              some (.inr (.inr ((w64 ((w64 (p0.c.Inputs + 2)) + s1)), p0)))
            else
              some (.inl ((w64 (s1 + 1))))
          else
            some (.inr (.inl ()))
        ) n (0)).bind fun (rl1 : (Unit) ⊕ (Int × D.l04Net)) =>
        match rl1 with
        | .inl s1r =>
          if (decide ((len p0.c.Gates) ≥ 360)) then
            some ((-1), (D.l04Net.mk p0.c true))
          else
            (app? p0.c.Gates ([(D.Gate.mk (cond (decide (x1 > x2)) p2 p1) (cond (decide (x1 > x2)) p1 p2))] : List D.Gate)).bind fun x4 =>
            some ((w64 ((w64 (p0.c.Inputs + 1)) + (len x4))), (D.l04Net.mk (D.Circuit.mk p0.c.Inputs x4) p0.full))
        | .inr v => some v

def spec_l04Draw (n : Nat) (p0 : D.l01Cur) : Option (D.Circuit × D.l01Cur) :=
  (spec_l01Below p0 6).bind fun x1 =>
  (spec_l04New (D.Circuit.mk (w64 (1 + x1.1)) ([] : List D.Gate))).bind fun x2 =>
  (spec_l01Below (D.l01Cur.mk p0.b x1.2.i x1.2.h) 8).bind fun x3 =>
  (iterN (fun (s1 : Int × Int × Int × Int × Bool × (List D.Gate)) =>
    if (decide (s1.1 > 0)) then
      (spec_l04Lit (D.l01Cur.mk p0.b s1.2.1 s1.2.2.1) (D.Circuit.mk s1.2.2.2.1 s1.2.2.2.2.2)).bind fun x4 =>
      (spec_l04Lit (D.l01Cur.mk p0.b x4.2.i x4.2.h) (D.Circuit.mk s1.2.2.2.1 s1.2.2.2.2.2)).bind fun x5 =>
      (spec_l04Net_l04And n (D.l04Net.mk (D.Circuit.mk s1.2.2.2.1 s1.2.2.2.2.2) s1.2.2.2.2.1) x4.1 x5.1).bind fun x6 =>
      some (.inl ((w64 (s1.1 - 1)), x5.2.i, x5.2.h, x6.2.c.Inputs, x6.2.full, x6.2.c.Gates))
    else
      some (.inr (s1.2.1, s1.2.2.1, s1.2.2.2.1, s1.2.2.2.2.1, s1.2.2.2.2.2))
  ) n (x3.1, x3.2.i, x3.2.h, x2.c.Inputs, x2.full, x2.c.Gates)).bind fun (rl1 : Int × Int × Int × Bool × (List D.Gate)) =>
  some ((D.Circuit.mk rl1.2.2.1 rl1.2.2.2.2), (D.l01Cur.mk p0.b rl1.1 rl1.2.1))

def spec_GiveCircuit (n : Nat) (p0 : List Byt) (p1 : Int) : Option D.Circuit :=
  (spec_l11At n p0 p1).bind fun x1 =>
  (spec_l04Draw n (D.l01Cur.mk p0 x1.i x1.h)).bind fun x2 =>
  some x2.1

def spec_GiveNum (n : Nat) (p0 : List Byt) (p1 : Int) : Option Int :=
  (spec_l11At n p0 p1).bind fun x1 =>
  (spec_l01Byte (D.l01Cur.mk p0 x1.i x1.h)).bind fun x2 =>
  (spec_l01Byte (D.l01Cur.mk p0 x2.2.i x2.2.h)).bind fun x3 =>
  some (w64 ((w64 (256 * x2.1)) + x3.1))

def spec_GiveSize (n : Nat) (p0 : List Byt) (p1 : Int) (p2 : Int) (p3 : Int) : Option Int :=
  (spec_GiveNum n p0 p1).bind fun x1 =>
  (rem? x1 (w64 ((w64 (p3 - p2)) + 1))).bind fun x2 =>
  some (w64 (p2 + x2))

def spec_GiveLit (n : Nat) (p0 : List Byt) (p1 : Int) (p2 : D.Circuit) : Option Int :=
  (spec_l11At n p0 p1).bind fun x1 =>
  (spec_l04Lit (D.l01Cur.mk p0 x1.i x1.h) p2).bind fun x2 =>
  some x2.1

def impl_isLiteral (p0 : Int) (p1 : Int) : Option Bool :=
  some (((p0 != 0) && (decide (p0 ≥ (w64 (0 - p1))))) && (decide (p0 ≤ p1)))

def impl_varOf (p0 : Int) : Option Int :=
  if (decide (p0 < 0)) then
    some (w64 (0 - p0))
  else
    some p0

def impl_CircuitOk (n : Nat) (p0 : D.Circuit) : Option Bool :=
  if (((decide (p0.Inputs < 0)) || (decide (p0.Inputs > 30))) || (decide ((len p0.Gates) > 360))) then
    some false
  else
    (iterN (fun (s1 : Int × (List (D.Gate × Bool))) =>
      if (decide (s1.1 < (len p0.Gates))) then
        (get? p0.Gates s1.1).bind fun x1 =>
        (impl_isLiteral x1.A (w64 ((w64 (1 + p0.Inputs)) + s1.1))).bind fun x2 =>
        (if (!x2) then some default else (impl_isLiteral x1.B (w64 ((w64 (1 + p0.Inputs)) + s1.1)))).bind fun x3 =>
        (if ((!x2) || (!x3)) then some default else (mget? fitK_Gate (false : Bool) s1.2 x1)).bind fun x4 =>
        if (((!x2) || (!x3)) || x4) then
          some (.inr (.inr false))
        else
          (impl_varOf x1.A).bind fun x5 =>
          (if (decide (x5 < 2)) then some default else (impl_varOf x1.A)).bind fun x6 =>
          (if (decide (x5 < 2)) then some default else (impl_varOf x1.B)).bind fun x7 =>
          if ((decide (x5 < 2)) || (decide (x6 ≥ x7))) then
            some (.inr (.inr false))
          else
            (mput? fitK_Gate s1.2 x1 true).bind fun x8 =>
            some (.inl ((w64 (s1.1 + 1)), x8))
      else
        some (.inr (.inl ()))
    ) n (0, [])).bind fun (rl1 : (Unit) ⊕ Bool) =>
    match rl1 with
    | .inl s1r =>
      some true
    | .inr v => some v

def impl_linesOf (p0 : D.Circuit) : Option Int :=
  some (w64 ((w64 (1 + p0.Inputs)) + (len p0.Gates)))

def impl_literalsOk (n : Nat) (p0 : List Int) (p1 : Int) : Option Bool :=
  (iterN (fun (s1 : Int) =>
    if (decide (s1 < (len p0))) then
      (get? p0 s1).bind fun x1 =>
      (impl_isLiteral x1 p1).bind fun x2 =>
      if (!x2) then
        some (.inr (.inr false))
      else
        some (.inl ((w64 (s1 + 1))))
    else
      some (.inr (.inl ()))
  ) n (0)).bind fun (rl1 : (Unit) ⊕ Bool) =>
  match rl1 with
  | .inl s1r =>
    some true
  | .inr v => some v

def slices_Clone___impl_Gate_impl_Gate_ (p0 : List D.Gate) : Option (List D.Gate) :=
  (app? ([] : List D.Gate) p0).bind fun x1 =>
  some x1

def impl_newBuilder (n : Nat) (p0 : D.Circuit) : Option D.builder :=
  (slices_Clone___impl_Gate_impl_Gate_ p0.Gates).bind fun x1 =>
  (iterN (fun (s1 : Int × (List (D.Gate × Int))) =>
    if (decide (s1.1 < (len p0.Gates))) then
      (get? p0.Gates s1.1).bind fun x2 =>
      (mputE? fitK_Gate fitZ s1.2 x2 (w64 ((w64 (2 + p0.Inputs)) + s1.1))).bind fun x3 =>
      some (.inl ((w64 (s1.1 + 1)), x3))
    else
      some (.inr (s1.2))
  ) n (0, [])).bind fun (rl1 : (List (D.Gate × Int))) =>
  some (D.builder.mk (D.Circuit.mk p0.Inputs x1) rl1 false)

def impl_builder_and (p0 : D.builder) (p1 : Int) (p2 : Int) : Option (Int × D.builder) :=
  if (((p1 == (-1)) || (p2 == (-1))) || (p1 == (w64 (0 - p2)))) then
    some ((-1), p0)
  else
    if (p1 == 1) then
      some (p2, p0)
    else
      if ((p2 == 1) || (p1 == p2)) then
        some (p1, p0)
      else
        (impl_varOf p1).bind fun x1 =>
        (impl_varOf p2).bind fun x2 =>
        if (decide (x1 > x2)) then
          (mget2? fitK_Gate (0 : Int) p0.line (D.Gate.mk p2 p1)).bind fun x3 =>
          if x3.2 then
            some (x3.1, p0)
          else
            if (decide ((len p0.c.Gates) ≥ 360)) then
              some ((-1), (D.builder.mk p0.c p0.line true))
            else
              (app? p0.c.Gates ([(D.Gate.mk p2 p1)] : List D.Gate)).bind fun x4 =>
              (impl_linesOf (D.Circuit.mk p0.c.Inputs x4)).bind fun x5 =>
              (mputE? fitK_Gate fitZ p0.line (D.Gate.mk p2 p1) x5).bind fun x6 =>
              some (x5, (D.builder.mk (D.Circuit.mk p0.c.Inputs x4) x6 p0.full))
        else
          (mget2? fitK_Gate (0 : Int) p0.line (D.Gate.mk p1 p2)).bind fun x7 =>
          if x7.2 then
            some (x7.1, p0)
          else
            if (decide ((len p0.c.Gates) ≥ 360)) then
              some ((-1), (D.builder.mk p0.c p0.line true))
            else
              (app? p0.c.Gates ([(D.Gate.mk p1 p2)] : List D.Gate)).bind fun x8 =>
              (impl_linesOf (D.Circuit.mk p0.c.Inputs x8)).bind fun x9 =>
              (mputE? fitK_Gate fitZ p0.line (D.Gate.mk p1 p2) x9).bind fun x10 =>
              some (x9, (D.builder.mk (D.Circuit.mk p0.c.Inputs x8) x10 p0.full))

def impl_builder_or (p0 : D.builder) (p1 : Int) (p2 : Int) : Option (Int × D.builder) :=
  (impl_builder_and p0 (w64 (0 - p1)) (w64 (0 - p2))).bind fun x1 =>
  some ((w64 (0 - x1.1)), x1.2)

def impl_builder_xor (p0 : D.builder) (p1 : Int) (p2 : Int) : Option (Int × D.builder) :=
  (impl_builder_and p0 p1 (w64 (0 - p2))).bind fun x1 =>
  (impl_builder_and x1.2 (w64 (0 - p1)) p2).bind fun x2 =>
  (impl_builder_or x2.2 x1.1 x2.1).bind fun x3 =>
  some (x3.1, x3.2)

def impl_builder_add (n : Nat) (p0 : D.builder) (p1 : List Int) (p2 : List Int) (p3 : Int) : Option ((List Int) × Int × D.builder) :=
  (mk? (len p1) (0 : Int)).bind fun x1 =>
  (iterN (fun (s1 : Int × Int × (List Int) × Int × Bool × (List D.Gate) × (List (D.Gate × Int))) =>
    if (decide (s1.2.1 < (len p1))) then
      (get? p1 s1.2.1).bind fun x2 =>
      (get? p2 s1.2.1).bind fun x3 =>
      (impl_builder_xor (D.builder.mk (D.Circuit.mk s1.2.2.2.1 s1.2.2.2.2.2.1) s1.2.2.2.2.2.2 s1.2.2.2.2.1) x2 x3).bind fun x4 =>
      (impl_builder_xor x4.2 x4.1 s1.1).bind fun x5 =>
      (set? s1.2.2.1 s1.2.1 x5.1).bind fun x6 =>
      (get? p1 s1.2.1).bind fun x7 =>
      (get? p2 s1.2.1).bind fun x8 =>
      (impl_builder_and x5.2 x7 x8).bind fun x9 =>
      (impl_builder_and x9.2 x4.1 s1.1).bind fun x10 =>
      (impl_builder_or x10.2 x9.1 x10.1).bind fun x11 =>
      some (.inl (x11.1, (w64 (s1.2.1 + 1)), x6, x11.2.c.Inputs, x11.2.full, x11.2.c.Gates, x11.2.line))
    else
      some (.inr (s1.1, s1.2.2.1, s1.2.2.2.1, s1.2.2.2.2.1, s1.2.2.2.2.2.1, s1.2.2.2.2.2.2))
  ) n (p3, 0, x1, p0.c.Inputs, p0.full, p0.c.Gates, p0.line)).bind fun (rl1 : Int × (List Int) × Int × Bool × (List D.Gate) × (List (D.Gate × Int))) =>
  some (rl1.2.1, rl1.1, (D.builder.mk (D.Circuit.mk rl1.2.2.1 rl1.2.2.2.2.1) rl1.2.2.2.2.2 rl1.2.2.2.1))

def impl_AddLits (n : Nat) (p0 : D.Circuit) (p1 : List Int) (p2 : List Int) (p3 : Int) : Option (D.Circuit × (List Int) × Int × Bool) :=
  (impl_CircuitOk n p0).bind fun x1 =>
  if (((!x1) || ((len p1) != (len p2))) || (decide ((len p1) > 16))) then
    some ((D.Circuit.mk 0 ([] : List D.Gate)), ([] : List Int), 0, false)
  else
    (impl_linesOf p0).bind fun x2 =>
    (impl_literalsOk n p1 x2).bind fun x3 =>
    (if (!x3) then some default else (impl_literalsOk n p2 x2)).bind fun x4 =>
    (if ((!x3) || (!x4)) then some default else (impl_isLiteral p3 x2)).bind fun x5 =>
    if (((!x3) || (!x4)) || (!x5)) then
      some ((D.Circuit.mk 0 ([] : List D.Gate)), ([] : List Int), 0, false)
    else
      (impl_newBuilder n p0).bind fun x6 =>
      (impl_builder_add n x6 p1 p2 p3).bind fun x7 =>
      if x7.2.2.full then
        some ((D.Circuit.mk 0 ([] : List D.Gate)), ([] : List Int), 0, false)
      else
        some (x7.2.2.c, x7.1, x7.2.1, true)

def laws_bools (n : Nat) (p0 : Int) (p1 : Int) : Option (List Bool) :=
  (iterN (fun (s1 : Int × (List Bool)) =>
    if (decide (s1.1 < p0)) then
      (shr? p1 s1.1).bind fun x1 =>
      (app? s1.2 ([((band x1 1) == 1)] : List Bool)).bind fun x2 =>
      some (.inl ((w64 (s1.1 + 1)), x2))
    else
      some (.inr (s1.2))
  ) n (0, ([] : List Bool))).bind fun (rl1 : (List Bool)) =>
  some rl1

def impl_litTrue (p0 : List Bool) (p1 : Int) : Option Bool :=
  if (decide (p1 < 0)) then
    (get? p0 (w64 ((w64 (0 - p1)) - 1))).bind fun x1 =>
    some (!x1)
  else
    (get? p0 (w64 (p1 - 1))).bind fun x2 =>
    some x2

def impl_EvalCircuit (n : Nat) (p0 : D.Circuit) (p1 : List Bool) : Option (List Bool) :=
  (impl_CircuitOk n p0).bind fun x1 =>
  if ((!x1) || ((len p1) != p0.Inputs)) then
    some ([] : List Bool)
  else
    (app? ([true] : List Bool) p1).bind fun x2 =>
    (iterN (fun (s1 : Int × (List Bool)) =>
      if (decide (s1.1 < (len p0.Gates))) then
        (get? p0.Gates s1.1).bind fun x3 =>
        (impl_litTrue s1.2 x3.A).bind fun x4 =>
        (if x4 then (impl_litTrue s1.2 x3.B) else some default).bind fun x5 =>
        (app? s1.2 ([(x4 && x5)] : List Bool)).bind fun x6 =>
        some (.inl ((w64 (s1.1 + 1)), x6))
      else
        some (.inr (s1.2))
    ) n (0, x2)).bind fun (rl1 : (List Bool)) =>
    some rl1

def laws_word (n : Nat) (p0 : List Bool) (p1 : List Int) : Option Int :=
  (iterN (fun (s1 : Int × Int) =>
    if (decide (s1.2 < (len p1))) then
      (get? p1 s1.2).bind fun x1 =>
      if ((decide ((cond (decide (x1 < 0)) (w64 (0 - x1)) x1) < 1)) || (decide ((cond (decide (x1 < 0)) (w64 (0 - x1)) x1) > (len p0)))) then
        some (.inr (.inr (-1)))
      else
        (get? p0 (w64 ((cond (decide (x1 < 0)) (w64 (0 - x1)) x1) - 1))).bind fun x2 =>
        if (x2 == (decide (x1 > 0))) then
          (shl? 1 s1.2).bind fun x3 =>
          some (.inl ((w64 (s1.1 + x3)), (w64 (s1.2 + 1))))
        else
          some (.inl (s1.1, (w64 (s1.2 + 1))))
    else
      some (.inr (.inl (s1.1)))
  ) n (0, 0)).bind fun (rl1 : (Int) ⊕ Int) =>
  match rl1 with
  | .inl s1r =>
    some s1r
  | .inr v => some v

def laws_FnAdders (n : Nat) (p0 : List Byt) : Option Bool :=
  if (decide ((len p0) > 1048576)) then
    some true
  else
    (spec_GiveCircuit n p0 0).bind fun x1 =>
    (spec_GiveSize n p0 40 1 5).bind fun x2 =>
    (iterN (fun (s1 : Int × (List Int) × (List Int)) =>
      if (decide (s1.1 < x2)) then
        (spec_GiveLit n p0 (w64 (50 + s1.1)) x1).bind fun x3 =>
        (app? s1.2.2 ([x3] : List Int)).bind fun x4 =>
        (spec_GiveLit n p0 (w64 (60 + s1.1)) x1).bind fun x5 =>
        (app? s1.2.1 ([x5] : List Int)).bind fun x6 =>
        some (.inl ((w64 (s1.1 + 1)), x6, x4))
      else
        some (.inr (s1.2.1, s1.2.2))
    ) n (0, ([] : List Int), ([] : List Int))).bind fun (rl1 : (List Int) × (List Int)) =>
    (spec_GiveLit n p0 44 x1).bind fun x7 =>
    (impl_AddLits n x1 rl1.2 rl1.1 x7).bind fun x8 =>
    if ((!x8.2.2.2) || ((len x8.2.1) != x2)) then
      some false
    else
      (iterN (fun (s2 : Int) =>
        (shl? 1 x1.Inputs).bind fun x9 =>
        if (decide (s2 < x9)) then
          (laws_bools n x1.Inputs s2).bind fun x10 =>
          (impl_EvalCircuit n x8.1 x10).bind fun x11 =>
          (app? ([] : List Int) x8.2.1).bind fun x12 =>
          (app? x12 ([x8.2.2.1] : List Int)).bind fun x13 =>
          (laws_word n x11 x13).bind fun x14 =>
          (laws_word n x11 rl1.2).bind fun x15 =>
          (laws_word n x11 rl1.1).bind fun x16 =>
          (laws_word n x11 ([x7] : List Int)).bind fun x17 =>
          if (x14 != (w64 ((w64 (x15 + x16)) + x17))) then
            some (.inr (.inr false))
          else
            some (.inl ((w64 (s2 + 1))))
        else
          some (.inr (.inl ()))
      ) n (0)).bind fun (rl2 : (Unit) ⊕ Bool) =>
      match rl2 with
      | .inl s2r =>
        some true
      | .inr v => some v
end Go.GL
