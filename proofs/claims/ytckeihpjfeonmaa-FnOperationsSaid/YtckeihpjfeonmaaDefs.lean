/- Printed by gen2.py: Go functions as Lean functions. -/
import Derived.Test.YtckeihpjfeonmaaGLp
set_option linter.unusedVariables false
namespace Go.GL
def spec_l01New (n : Nat) (p0 : List Byt) : Option D.l01Cur :=
  (iterN (fun (s1 : Int × Int) =>
    if ((decide (s1.2 < (len p0))) && (decide (s1.2 < 4000))) then
      (get? p0 s1.2).bind fun x1 =>
      some (.inl ((band (w64 ((w64 ((w64 (s1.1 * 131)) + (w64 x1.n))) + 7)) 1073741823), (w64 (s1.2 + 1))))
    else
      some (.inr (s1.1))
  ) n ((w64 (55127 + (len p0))), 0)).bind fun (rl1 : Int) =>
  some (D.l01Cur.mk p0 0 rl1)

def spec_l11At (n : Nat) (p0 : List Byt) (p1 : Int) : Option D.l01Cur :=
  (spec_l01New n p0).bind fun x1 =>
  some (D.l01Cur.mk p0 (imin p1 (len p0)) (band (w64 ((w64 ((w64 (x1.h * 31)) + (w64 (p1 * 7919)))) + 1)) 1073741823))

def spec_l01Byte (p0 : D.l01Cur) : Option (Int × D.l01Cur) :=
  (shr? (w64 ((w64 (p0.h * 6364136223846793005)) + 1442695040888963407)) 33).bind fun x1 =>
  (shr? (w64 ((w64 (p0.h * 6364136223846793005)) + 1442695040888963407)) 45).bind fun x2 =>
  if (decide (p0.i < (len p0.b))) then
    (get? p0.b p0.i).bind fun x3 =>
    some ((band (w64 ((band (bxor x1 x2) 255) + (w64 x3.n))) 255), (D.l01Cur.mk p0.b (w64 (p0.i + 1)) (w64 ((w64 (p0.h * 6364136223846793005)) + 1442695040888963407))))
  else
    some ((band (bxor x1 x2) 255), (D.l01Cur.mk p0.b p0.i (w64 ((w64 (p0.h * 6364136223846793005)) + 1442695040888963407))))

def spec_l01Below (p0 : D.l01Cur) (p1 : Int) : Option (Int × D.l01Cur) :=
  if (decide (p1 ≤ 0)) then
    some (0, p0)
  else
    (spec_l01Byte p0).bind fun x1 =>
    (rem? x1.1 p1).bind fun x2 =>
    some (x2, (D.l01Cur.mk p0.b x1.2.i x1.2.h))

def spec_l04New (p0 : D.Circuit) : Option D.l04Net :=
  (app? ([] : List D.Gate) p0.Gates).bind fun x1 =>
  some (D.l04Net.mk (D.Circuit.mk p0.Inputs x1) false)

def spec_l01Once (p0 : D.l01Cur) (p1 : Int) : Option (Bool × D.l01Cur) :=
  (spec_l01Below p0 p1).bind fun x1 =>
  some ((x1.1 == 0), (D.l01Cur.mk p0.b x1.2.i x1.2.h))

def spec_l04Lit (p0 : D.l01Cur) (p1 : D.Circuit) : Option (Int × D.l01Cur) :=
  (spec_l01Below p0 (w64 ((w64 (p1.Inputs + 1)) + (len p1.Gates)))).bind fun x1 =>
  (spec_l01Once (D.l01Cur.mk p0.b x1.2.i x1.2.h) 2).bind fun x2 =>
  if x2.1 then
    some ((w64 (0 - (w64 (1 + x1.1)))), (D.l01Cur.mk p0.b x2.2.i x2.2.h))
  else
    some ((w64 (1 + x1.1)), (D.l01Cur.mk p0.b x2.2.i x2.2.h))

def spec_l03Abs (p0 : Int) : Option Int :=
  if (decide (p0 < 0)) then
    some (w64 (0 - p0))
  else
    some p0

def spec_l04Net_l04And (n : Nat) (p0 : D.l04Net) (p1 : Int) (p2 : Int) : Option (Int × D.l04Net) :=
  if (((p1 == (-1)) || (p2 == (-1))) || (p1 == (w64 (0 - p2)))) then
    some ((-1), p0)
  else
    if (p1 == 1) then
      some (p2, p0)
    else
      if ((p2 == 1) || (p1 == p2)) then
        some (p1, p0)
      else
        (spec_l03Abs p1).bind fun x1 =>
        (spec_l03Abs p2).bind fun x2 =>
        (iterN (fun (s1 : Int) =>
          if (decide (s1 < (len p0.c.Gates))) then
            (get? p0.c.Gates s1).bind fun x3 =>
            if (decide ((D.Gate.mk (cond (decide (x1 > x2)) p2 p1) (cond (decide (x1 > x2)) p1 p2)) = x3)) then
              some (.inr (.inr ((w64 ((w64 (p0.c.Inputs + 2)) + s1)), p0)))
            else
              some (.inl ((w64 (s1 + 1))))
          else
            some (.inr (.inl ()))
        ) n (0)).bind fun (rl1 : (Unit) ⊕ (Int × D.l04Net)) =>
        match rl1 with
        | .inl s1r =>
          if (decide ((len p0.c.Gates) ≥ 360)) then
            some ((-1), (D.l04Net.mk p0.c true))
          else
            (app? p0.c.Gates ([(D.Gate.mk (cond (decide (x1 > x2)) p2 p1) (cond (decide (x1 > x2)) p1 p2))] : List D.Gate)).bind fun x4 =>
            some ((w64 ((w64 (p0.c.Inputs + 1)) + (len x4))), (D.l04Net.mk (D.Circuit.mk p0.c.Inputs x4) p0.full))
        | .inr v => some v

def spec_l04Draw (n : Nat) (p0 : D.l01Cur) : Option (D.Circuit × D.l01Cur) :=
  (spec_l01Below p0 6).bind fun x1 =>
  (spec_l04New (D.Circuit.mk (w64 (1 + x1.1)) ([] : List D.Gate))).bind fun x2 =>
  (spec_l01Below (D.l01Cur.mk p0.b x1.2.i x1.2.h) 8).bind fun x3 =>
  (iterN (fun (s1 : Int × Int × Int × Int × Bool × (List D.Gate)) =>
    if (decide (s1.1 > 0)) then
      (spec_l04Lit (D.l01Cur.mk p0.b s1.2.1 s1.2.2.1) (D.Circuit.mk s1.2.2.2.1 s1.2.2.2.2.2)).bind fun x4 =>
      (spec_l04Lit (D.l01Cur.mk p0.b x4.2.i x4.2.h) (D.Circuit.mk s1.2.2.2.1 s1.2.2.2.2.2)).bind fun x5 =>
      (spec_l04Net_l04And n (D.l04Net.mk (D.Circuit.mk s1.2.2.2.1 s1.2.2.2.2.2) s1.2.2.2.2.1) x4.1 x5.1).bind fun x6 =>
      some (.inl ((w64 (s1.1 - 1)), x5.2.i, x5.2.h, x6.2.c.Inputs, x6.2.full, x6.2.c.Gates))
    else
      some (.inr (s1.2.1, s1.2.2.1, s1.2.2.2.1, s1.2.2.2.2.1, s1.2.2.2.2.2))
  ) n (x3.1, x3.2.i, x3.2.h, x2.c.Inputs, x2.full, x2.c.Gates)).bind fun (rl1 : Int × Int × Int × Bool × (List D.Gate)) =>
  some ((D.Circuit.mk rl1.2.2.1 rl1.2.2.2.2), (D.l01Cur.mk p0.b rl1.1 rl1.2.1))

def spec_GiveCircuit (n : Nat) (p0 : List Byt) (p1 : Int) : Option D.Circuit :=
  (spec_l11At n p0 p1).bind fun x1 =>
  (spec_l04Draw n (D.l01Cur.mk p0 x1.i x1.h)).bind fun x2 =>
  some x2.1

def spec_GiveNum (n : Nat) (p0 : List Byt) (p1 : Int) : Option Int :=
  (spec_l11At n p0 p1).bind fun x1 =>
  (spec_l01Byte (D.l01Cur.mk p0 x1.i x1.h)).bind fun x2 =>
  (spec_l01Byte (D.l01Cur.mk p0 x2.2.i x2.2.h)).bind fun x3 =>
  some (w64 ((w64 (256 * x2.1)) + x3.1))

def spec_GiveSize (n : Nat) (p0 : List Byt) (p1 : Int) (p2 : Int) (p3 : Int) : Option Int :=
  (spec_GiveNum n p0 p1).bind fun x1 =>
  (rem? x1 (w64 ((w64 (p3 - p2)) + 1))).bind fun x2 =>
  some (w64 (p2 + x2))

def spec_GiveLit (n : Nat) (p0 : List Byt) (p1 : Int) (p2 : D.Circuit) : Option Int :=
  (spec_l11At n p0 p1).bind fun x1 =>
  (spec_l04Lit (D.l01Cur.mk p0 x1.i x1.h) p2).bind fun x2 =>
  some x2.1

def impl_isLiteral (p0 : Int) (p1 : Int) : Option Bool :=
  some (((p0 != 0) && (decide (p0 ≥ (w64 (0 - p1))))) && (decide (p0 ≤ p1)))

def impl_varOf (p0 : Int) : Option Int :=
  if (decide (p0 < 0)) then
    some (w64 (0 - p0))
  else
    some p0

def impl_CircuitOk (n : Nat) (p0 : D.Circuit) : Option Bool :=
  if (((decide (p0.Inputs < 0)) || (decide (p0.Inputs > 30))) || (decide ((len p0.Gates) > 360))) then
    some false
  else
    (iterN (fun (s1 : Int × (List (D.Gate × Bool))) =>
      if (decide (s1.1 < (len p0.Gates))) then
        (get? p0.Gates s1.1).bind fun x1 =>
        (impl_isLiteral x1.A (w64 ((w64 (1 + p0.Inputs)) + s1.1))).bind fun x2 =>
        (if (!x2) then some default else (impl_isLiteral x1.B (w64 ((w64 (1 + p0.Inputs)) + s1.1)))).bind fun x3 =>
        (if ((!x2) || (!x3)) then some default else (mget? fitK_Gate (false : Bool) s1.2 x1)).bind fun x4 =>
        if (((!x2) || (!x3)) || x4) then
          some (.inr (.inr false))
        else
          (impl_varOf x1.A).bind fun x5 =>
          (if (decide (x5 < 2)) then some default else (impl_varOf x1.A)).bind fun x6 =>
          (if (decide (x5 < 2)) then some default else (impl_varOf x1.B)).bind fun x7 =>
          if ((decide (x5 < 2)) || (decide (x6 ≥ x7))) then
            some (.inr (.inr false))
          else
            (mput? fitK_Gate s1.2 x1 true).bind fun x8 =>
            some (.inl ((w64 (s1.1 + 1)), x8))
      else
        some (.inr (.inl ()))
    ) n (0, [])).bind fun (rl1 : (Unit) ⊕ Bool) =>
    match rl1 with
    | .inl s1r =>
      some true
    | .inr v => some v

def impl_isTwoWords (p0 : Int) : Option Bool :=
  some ((decide (p0 ≥ 3)) && (decide (p0 ≤ 16)))

def impl_linesOf (p0 : D.Circuit) : Option Int :=
  some (w64 ((w64 (1 + p0.Inputs)) + (len p0.Gates)))

def impl_literalsOk (n : Nat) (p0 : List Int) (p1 : Int) : Option Bool :=
  (iterN (fun (s1 : Int) =>
    if (decide (s1 < (len p0))) then
      (get? p0 s1).bind fun x1 =>
      (impl_isLiteral x1 p1).bind fun x2 =>
      if (!x2) then
        some (.inr (.inr false))
      else
        some (.inl ((w64 (s1 + 1))))
    else
      some (.inr (.inl ()))
  ) n (0)).bind fun (rl1 : (Unit) ⊕ Bool) =>
  match rl1 with
  | .inl s1r =>
    some true
  | .inr v => some v

def slices_Clone___impl_Gate_impl_Gate_ (p0 : List D.Gate) : Option (List D.Gate) :=
  (app? ([] : List D.Gate) p0).bind fun x1 =>
  some x1

def impl_newBuilder (n : Nat) (p0 : D.Circuit) : Option D.builder :=
  (slices_Clone___impl_Gate_impl_Gate_ p0.Gates).bind fun x1 =>
  (iterN (fun (s1 : Int × (List (D.Gate × Int))) =>
    if (decide (s1.1 < (len p0.Gates))) then
      (get? p0.Gates s1.1).bind fun x2 =>
      (mputE? fitK_Gate fitZ s1.2 x2 (w64 ((w64 (2 + p0.Inputs)) + s1.1))).bind fun x3 =>
      some (.inl ((w64 (s1.1 + 1)), x3))
    else
      some (.inr (s1.2))
  ) n (0, [])).bind fun (rl1 : (List (D.Gate × Int))) =>
  some (D.builder.mk (D.Circuit.mk p0.Inputs x1) rl1 false)

def impl_builder_and (p0 : D.builder) (p1 : Int) (p2 : Int) : Option (Int × D.builder) :=
  if (((p1 == (-1)) || (p2 == (-1))) || (p1 == (w64 (0 - p2)))) then
    some ((-1), p0)
  else
    if (p1 == 1) then
      some (p2, p0)
    else
      if ((p2 == 1) || (p1 == p2)) then
        some (p1, p0)
      else
        (impl_varOf p1).bind fun x1 =>
        (impl_varOf p2).bind fun x2 =>
        if (decide (x1 > x2)) then
          (mget2? fitK_Gate (0 : Int) p0.line (D.Gate.mk p2 p1)).bind fun x3 =>
          if x3.2 then
            some (x3.1, p0)
          else
            if (decide ((len p0.c.Gates) ≥ 360)) then
              some ((-1), (D.builder.mk p0.c p0.line true))
            else
              (app? p0.c.Gates ([(D.Gate.mk p2 p1)] : List D.Gate)).bind fun x4 =>
              (impl_linesOf (D.Circuit.mk p0.c.Inputs x4)).bind fun x5 =>
              (mputE? fitK_Gate fitZ p0.line (D.Gate.mk p2 p1) x5).bind fun x6 =>
              some (x5, (D.builder.mk (D.Circuit.mk p0.c.Inputs x4) x6 p0.full))
        else
          (mget2? fitK_Gate (0 : Int) p0.line (D.Gate.mk p1 p2)).bind fun x7 =>
          if x7.2 then
            some (x7.1, p0)
          else
            if (decide ((len p0.c.Gates) ≥ 360)) then
              some ((-1), (D.builder.mk p0.c p0.line true))
            else
              (app? p0.c.Gates ([(D.Gate.mk p1 p2)] : List D.Gate)).bind fun x8 =>
              (impl_linesOf (D.Circuit.mk p0.c.Inputs x8)).bind fun x9 =>
              (mputE? fitK_Gate fitZ p0.line (D.Gate.mk p1 p2) x9).bind fun x10 =>
              some (x9, (D.builder.mk (D.Circuit.mk p0.c.Inputs x8) x10 p0.full))

def impl_builder_or (p0 : D.builder) (p1 : Int) (p2 : Int) : Option (Int × D.builder) :=
  (impl_builder_and p0 (w64 (0 - p1)) (w64 (0 - p2))).bind fun x1 =>
  some ((w64 (0 - x1.1)), x1.2)

def impl_builder_xor (p0 : D.builder) (p1 : Int) (p2 : Int) : Option (Int × D.builder) :=
  (impl_builder_and p0 p1 (w64 (0 - p2))).bind fun x1 =>
  (impl_builder_and x1.2 (w64 (0 - p1)) p2).bind fun x2 =>
  (impl_builder_or x2.2 x1.1 x2.1).bind fun x3 =>
  some (x3.1, x3.2)

def impl_builder_add (n : Nat) (p0 : D.builder) (p1 : List Int) (p2 : List Int) (p3 : Int) : Option ((List Int) × Int × D.builder) :=
  (mk? (len p1) (0 : Int)).bind fun x1 =>
  (iterN (fun (s1 : Int × Int × (List Int) × Int × Bool × (List D.Gate) × (List (D.Gate × Int))) =>
    if (decide (s1.2.1 < (len p1))) then
      (get? p1 s1.2.1).bind fun x2 =>
      (get? p2 s1.2.1).bind fun x3 =>
      (impl_builder_xor (D.builder.mk (D.Circuit.mk s1.2.2.2.1 s1.2.2.2.2.2.1) s1.2.2.2.2.2.2 s1.2.2.2.2.1) x2 x3).bind fun x4 =>
      (impl_builder_xor x4.2 x4.1 s1.1).bind fun x5 =>
      (set? s1.2.2.1 s1.2.1 x5.1).bind fun x6 =>
      (get? p1 s1.2.1).bind fun x7 =>
      (get? p2 s1.2.1).bind fun x8 =>
      (impl_builder_and x5.2 x7 x8).bind fun x9 =>
      (impl_builder_and x9.2 x4.1 s1.1).bind fun x10 =>
      (impl_builder_or x10.2 x9.1 x10.1).bind fun x11 =>
      some (.inl (x11.1, (w64 (s1.2.1 + 1)), x6, x11.2.c.Inputs, x11.2.full, x11.2.c.Gates, x11.2.line))
    else
      some (.inr (s1.1, s1.2.2.1, s1.2.2.2.1, s1.2.2.2.2.1, s1.2.2.2.2.2.1, s1.2.2.2.2.2.2))
  ) n (p3, 0, x1, p0.c.Inputs, p0.full, p0.c.Gates, p0.line)).bind fun (rl1 : Int × (List Int) × Int × Bool × (List D.Gate) × (List (D.Gate × Int))) =>
  some (rl1.2.1, rl1.1, (D.builder.mk (D.Circuit.mk rl1.2.2.1 rl1.2.2.2.2.1) rl1.2.2.2.2.2 rl1.2.2.2.1))

def impl_opposites (n : Nat) (p0 : List Int) : Option (List Int) :=
  (mk? (len p0) (0 : Int)).bind fun x1 =>
  (iterN (fun (s1 : Int × (List Int)) =>
    if (decide (s1.1 < (len p0))) then
      (get? p0 s1.1).bind fun x2 =>
      (set? s1.2 s1.1 (w64 (0 - x2))).bind fun x3 =>
      some (.inl ((w64 (s1.1 + 1)), x3))
    else
      some (.inr (s1.2))
  ) n (0, x1)).bind fun (rl1 : (List Int)) =>
  some rl1

def impl_numberOf (n : Nat) (p0 : Int) (p1 : Int) : Option (List Int) :=
  (mk? p0 (0 : Int)).bind fun x1 =>
  (iterN (fun (s1 : Int × (List Int)) =>
    if (decide (s1.1 < (len x1))) then
      (set? s1.2 s1.1 (-1)).bind fun x2 =>
      (shr? p1 (IntKind.u64.wrap s1.1)).bind fun x3 =>
      if ((band x3 1) == 1) then
        (set? x2 s1.1 1).bind fun x4 =>
        some (.inl ((w64 (s1.1 + 1)), x4))
      else
        some (.inl ((w64 (s1.1 + 1)), x2))
    else
      some (.inr (s1.2))
  ) n (0, x1)).bind fun (rl1 : (List Int)) =>
  some rl1

def impl_builder_multiply (n : Nat) (p0 : D.builder) (p1 : List Int) (p2 : List Int) : Option ((List Int) × D.builder) :=
  (impl_numberOf n (len p1) 0).bind fun x1 =>
  (iterN (fun (s1 : Int × (List Int) × Int × Bool × (List D.Gate) × (List (D.Gate × Int))) =>
    if (decide (s1.1 < (len p2))) then
      (mk? (w64 ((len p1) - s1.1)) (0 : Int)).bind fun x2 =>
      (iterN (fun (s2 : Int × (List Int) × Int × Bool × (List D.Gate) × (List (D.Gate × Int))) =>
        if (decide (s2.1 < (len x2))) then
          (get? p2 s1.1).bind fun x3 =>
          (get? p1 s2.1).bind fun x4 =>
          (impl_builder_and (D.builder.mk (D.Circuit.mk s2.2.2.1 s2.2.2.2.2.1) s2.2.2.2.2.2 s2.2.2.2.1) x3 x4).bind fun x5 =>
          (set? s2.2.1 s2.1 x5.1).bind fun x6 =>
          some (.inl ((w64 (s2.1 + 1)), x6, x5.2.c.Inputs, x5.2.full, x5.2.c.Gates, x5.2.line))
        else
          some (.inr (s2.2.1, s2.2.2.1, s2.2.2.2.1, s2.2.2.2.2.1, s2.2.2.2.2.2))
      ) n (0, x2, s1.2.2.1, s1.2.2.2.1, s1.2.2.2.2.1, s1.2.2.2.2.2)).bind fun (rl2 : (List Int) × Int × Bool × (List D.Gate) × (List (D.Gate × Int))) =>
      (cut? s1.2.1 s1.1 (len x1)).bind fun x7 =>
      (impl_builder_add n (D.builder.mk (D.Circuit.mk rl2.2.1 rl2.2.2.2.1) rl2.2.2.2.2 rl2.2.2.1) (vcut s1.2.1 s1.1 (List.length x7)) rl2.1 (-1)).bind fun x8 =>
      (cut? s1.2.1 s1.1 (len x1)).bind fun x9 =>
      some (.inl ((w64 (s1.1 + 1)), (vcopy s1.2.1 s1.1 (List.length x9) x8.1), x8.2.2.c.Inputs, x8.2.2.full, x8.2.2.c.Gates, x8.2.2.line))
    else
      some (.inr (s1.2.1, s1.2.2.1, s1.2.2.2.1, s1.2.2.2.2.1, s1.2.2.2.2.2))
  ) n (0, x1, p0.c.Inputs, p0.full, p0.c.Gates, p0.line)).bind fun (rl1 : (List Int) × Int × Bool × (List D.Gate) × (List (D.Gate × Int))) =>
  some (rl1.1, (D.builder.mk (D.Circuit.mk rl1.2.1 rl1.2.2.2.1) rl1.2.2.2.2 rl1.2.2.1))

def impl_builder_choose (p0 : D.builder) (p1 : Int) (p2 : Int) (p3 : Int) : Option (Int × D.builder) :=
  (impl_builder_and p0 p1 p2).bind fun x1 =>
  (impl_builder_and x1.2 (w64 (0 - p1)) p3).bind fun x2 =>
  (impl_builder_or x2.2 x1.1 x2.1).bind fun x3 =>
  some (x3.1, x3.2)

def impl_builder_divide (n : Nat) (p0 : D.builder) (p1 : List Int) (p2 : List Int) : Option ((List Int) × (List Int) × D.builder) :=
  (mk? (len p1) (0 : Int)).bind fun x1 =>
  (impl_numberOf n (len p1) 0).bind fun x2 =>
  (impl_opposites n p2).bind fun x3 =>
  (app? x3 ([1] : List Int)).bind fun x4 =>
  (iterN (fun (s1 : Int × (List Int) × (List Int) × Int × Bool × (List D.Gate) × (List (D.Gate × Int))) =>
    if (decide (s1.1 ≥ 0)) then
      (get? p1 s1.1).bind fun x5 =>
      (app? ([x5] : List Int) s1.2.1).bind fun x6 =>
      (impl_builder_add n (D.builder.mk (D.Circuit.mk s1.2.2.2.1 s1.2.2.2.2.2.1) s1.2.2.2.2.2.2 s1.2.2.2.2.1) x6 x4 1).bind fun x7 =>
      (set? s1.2.2.1 s1.1 x7.2.1).bind fun x8 =>
      (iterN (fun (s2 : Int × Int × Bool × (List D.Gate) × (List (D.Gate × Int)) × (List Int)) =>
        if (decide (s2.1 < (len x2))) then
          (get? x7.1 s2.1).bind fun x9 =>
          (get? x6 s2.1).bind fun x10 =>
          (impl_builder_choose (D.builder.mk (D.Circuit.mk s2.2.1 s2.2.2.2.1) s2.2.2.2.2.1 s2.2.2.1) x7.2.1 x9 x10).bind fun x11 =>
          (set? s2.2.2.2.2.2 s2.1 x11.1).bind fun x12 =>
          some (.inl ((w64 (s2.1 + 1)), x11.2.c.Inputs, x11.2.full, x11.2.c.Gates, x11.2.line, x12))
        else
          some (.inr (s2.2.1, s2.2.2.1, s2.2.2.2.1, s2.2.2.2.2.1, s2.2.2.2.2.2))
      ) n (0, x7.2.2.c.Inputs, x7.2.2.full, x7.2.2.c.Gates, x7.2.2.line, s1.2.1)).bind fun (rl2 : Int × Bool × (List D.Gate) × (List (D.Gate × Int)) × (List Int)) =>
      some (.inl ((w64 (s1.1 - 1)), rl2.2.2.2.2, x8, rl2.1, rl2.2.1, rl2.2.2.1, rl2.2.2.2.1))
    else
      some (.inr (s1.2.1, s1.2.2.1, s1.2.2.2.1, s1.2.2.2.2.1, s1.2.2.2.2.2.1, s1.2.2.2.2.2.2))
  ) n ((w64 ((len p1) - 1)), x2, x1, p0.c.Inputs, p0.full, p0.c.Gates, p0.line)).bind fun (rl1 : (List Int) × (List Int) × Int × Bool × (List D.Gate) × (List (D.Gate × Int))) =>
  some (rl1.2.1, rl1.1, (D.builder.mk (D.Circuit.mk rl1.2.2.1 rl1.2.2.2.2.1) rl1.2.2.2.2.2 rl1.2.2.2.1))

def slices_Clone___int_int_ (p0 : List Int) : Option (List Int) :=
  (app? ([] : List Int) p0).bind fun x1 =>
  some x1

def impl_builder_shift (n : Nat) (p0 : D.builder) (p1 : Int) (p2 : List Int) (p3 : List Int) : Option ((List Int) × D.builder) :=
  if (p1 == 13) then
    (get? p2 (w64 ((len p2) - 1))).bind fun x1 =>
    (slices_Clone___int_int_ p2).bind fun x2 =>
    (iterN (fun (s1 : Int × (List Int) × Int × Bool × (List D.Gate) × (List (D.Gate × Int))) =>
      (if (decide (s1.1 < (len p2))) then (shl? 1 (IntKind.u64.wrap s1.1)) else some default).bind fun x3 =>
      if ((decide (s1.1 < (len p2))) && (decide (x3 < (len p2)))) then
        (slices_Clone___int_int_ s1.2.1).bind fun x4 =>
        (iterN (fun (s2 : Int × (List Int) × Int × Bool × (List D.Gate) × (List (D.Gate × Int))) =>
          if (decide (s2.1 < (len x2))) then
            (shl? 1 (IntKind.u64.wrap s1.1)).bind fun x5 =>
            if (p1 == 11) then
              (shl? 1 (IntKind.u64.wrap s1.1)).bind fun x6 =>
              if ((decide ((w64 (s2.1 - x6)) ≥ 0)) && (decide ((w64 (s2.1 - x6)) < (len p2)))) then
                (get? x4 (w64 (s2.1 - x6))).bind fun x7 =>
                (get? p3 s1.1).bind fun x8 =>
                (get? x4 s2.1).bind fun x9 =>
                (impl_builder_choose (D.builder.mk (D.Circuit.mk s2.2.2.1 s2.2.2.2.2.1) s2.2.2.2.2.2 s2.2.2.2.1) x8 x7 x9).bind fun x10 =>
                (set? s2.2.1 s2.1 x10.1).bind fun x11 =>
                some (.inl ((w64 (s2.1 + 1)), x11, x10.2.c.Inputs, x10.2.full, x10.2.c.Gates, x10.2.line))
              else
                (get? p3 s1.1).bind fun x12 =>
                (get? x4 s2.1).bind fun x13 =>
                (impl_builder_choose (D.builder.mk (D.Circuit.mk s2.2.2.1 s2.2.2.2.2.1) s2.2.2.2.2.2 s2.2.2.2.1) x12 x1 x13).bind fun x14 =>
                (set? s2.2.1 s2.1 x14.1).bind fun x15 =>
                some (.inl ((w64 (s2.1 + 1)), x15, x14.2.c.Inputs, x14.2.full, x14.2.c.Gates, x14.2.line))
            else
              if ((decide ((w64 (s2.1 + x5)) ≥ 0)) && (decide ((w64 (s2.1 + x5)) < (len p2)))) then
                (get? x4 (w64 (s2.1 + x5))).bind fun x16 =>
                (get? p3 s1.1).bind fun x17 =>
                (get? x4 s2.1).bind fun x18 =>
                (impl_builder_choose (D.builder.mk (D.Circuit.mk s2.2.2.1 s2.2.2.2.2.1) s2.2.2.2.2.2 s2.2.2.2.1) x17 x16 x18).bind fun x19 =>
                (set? s2.2.1 s2.1 x19.1).bind fun x20 =>
                some (.inl ((w64 (s2.1 + 1)), x20, x19.2.c.Inputs, x19.2.full, x19.2.c.Gates, x19.2.line))
              else
                (get? p3 s1.1).bind fun x21 =>
                (get? x4 s2.1).bind fun x22 =>
                (impl_builder_choose (D.builder.mk (D.Circuit.mk s2.2.2.1 s2.2.2.2.2.1) s2.2.2.2.2.2 s2.2.2.2.1) x21 x1 x22).bind fun x23 =>
                (set? s2.2.1 s2.1 x23.1).bind fun x24 =>
                some (.inl ((w64 (s2.1 + 1)), x24, x23.2.c.Inputs, x23.2.full, x23.2.c.Gates, x23.2.line))
          else
            some (.inr (s2.2.1, s2.2.2.1, s2.2.2.2.1, s2.2.2.2.2.1, s2.2.2.2.2.2))
        ) n (0, s1.2.1, s1.2.2.1, s1.2.2.2.1, s1.2.2.2.2.1, s1.2.2.2.2.2)).bind fun (rl2 : (List Int) × Int × Bool × (List D.Gate) × (List (D.Gate × Int))) =>
        some (.inl ((w64 (s1.1 + 1)), rl2.1, rl2.2.1, rl2.2.2.1, rl2.2.2.2.1, rl2.2.2.2.2))
      else
        some (.inr (s1.1, s1.2.1, s1.2.2.1, s1.2.2.2.1, s1.2.2.2.2.1, s1.2.2.2.2.2))
    ) n (0, x2, p0.c.Inputs, p0.full, p0.c.Gates, p0.line)).bind fun (rl1 : Int × (List Int) × Int × Bool × (List D.Gate) × (List (D.Gate × Int))) =>
    if (decide (rl1.1 < (len p2))) then
      (iterN (fun (s3 : Int × Int × Int × Bool × (List D.Gate) × (List (D.Gate × Int))) =>
        if (decide (s3.1 < (len p2))) then
          (get? p3 s3.1).bind fun x25 =>
          (impl_builder_or (D.builder.mk (D.Circuit.mk s3.2.2.1 s3.2.2.2.2.1) s3.2.2.2.2.2 s3.2.2.2.1) s3.2.1 x25).bind fun x26 =>
          some (.inl ((w64 (s3.1 + 1)), x26.1, x26.2.c.Inputs, x26.2.full, x26.2.c.Gates, x26.2.line))
        else
          some (.inr (s3.2.1, s3.2.2.1, s3.2.2.2.1, s3.2.2.2.2.1, s3.2.2.2.2.2))
      ) n (rl1.1, (-1), rl1.2.2.1, rl1.2.2.2.1, rl1.2.2.2.2.1, rl1.2.2.2.2.2)).bind fun (rl3 : Int × Int × Bool × (List D.Gate) × (List (D.Gate × Int))) =>
      (iterN (fun (s4 : Int × (List Int) × Int × Bool × (List D.Gate) × (List (D.Gate × Int))) =>
        if (decide (s4.1 < (len x2))) then
          (get? s4.2.1 s4.1).bind fun x27 =>
          (impl_builder_choose (D.builder.mk (D.Circuit.mk s4.2.2.1 s4.2.2.2.2.1) s4.2.2.2.2.2 s4.2.2.2.1) rl3.1 x1 x27).bind fun x28 =>
          (set? s4.2.1 s4.1 x28.1).bind fun x29 =>
          some (.inl ((w64 (s4.1 + 1)), x29, x28.2.c.Inputs, x28.2.full, x28.2.c.Gates, x28.2.line))
        else
          some (.inr (s4.2.1, s4.2.2.1, s4.2.2.2.1, s4.2.2.2.2.1, s4.2.2.2.2.2))
      ) n (0, rl1.2.1, rl3.2.1, rl3.2.2.1, rl3.2.2.2.1, rl3.2.2.2.2)).bind fun (rl4 : (List Int) × Int × Bool × (List D.Gate) × (List (D.Gate × Int))) =>
      some (rl4.1, (D.builder.mk (D.Circuit.mk rl4.2.1 rl4.2.2.2.1) rl4.2.2.2.2 rl4.2.2.1))
    else
      some (rl1.2.1, (D.builder.mk (D.Circuit.mk rl1.2.2.1 rl1.2.2.2.2.1) rl1.2.2.2.2.2 rl1.2.2.2.1))
  else
    (slices_Clone___int_int_ p2).bind fun x30 =>
    (iterN (fun (s5 : Int × (List Int) × Int × Bool × (List D.Gate) × (List (D.Gate × Int))) =>
      (if (decide (s5.1 < (len p2))) then (shl? 1 (IntKind.u64.wrap s5.1)) else some default).bind fun x31 =>
      if ((decide (s5.1 < (len p2))) && (decide (x31 < (len p2)))) then
        (slices_Clone___int_int_ s5.2.1).bind fun x32 =>
        (iterN (fun (s6 : Int × (List Int) × Int × Bool × (List D.Gate) × (List (D.Gate × Int))) =>
          if (decide (s6.1 < (len x30))) then
            (shl? 1 (IntKind.u64.wrap s5.1)).bind fun x33 =>
            if (p1 == 11) then
              (shl? 1 (IntKind.u64.wrap s5.1)).bind fun x34 =>
              if ((decide ((w64 (s6.1 - x34)) ≥ 0)) && (decide ((w64 (s6.1 - x34)) < (len p2)))) then
                (get? x32 (w64 (s6.1 - x34))).bind fun x35 =>
                (get? p3 s5.1).bind fun x36 =>
                (get? x32 s6.1).bind fun x37 =>
                (impl_builder_choose (D.builder.mk (D.Circuit.mk s6.2.2.1 s6.2.2.2.2.1) s6.2.2.2.2.2 s6.2.2.2.1) x36 x35 x37).bind fun x38 =>
                (set? s6.2.1 s6.1 x38.1).bind fun x39 =>
                some (.inl ((w64 (s6.1 + 1)), x39, x38.2.c.Inputs, x38.2.full, x38.2.c.Gates, x38.2.line))
              else
                (get? p3 s5.1).bind fun x40 =>
                (get? x32 s6.1).bind fun x41 =>
                (impl_builder_choose (D.builder.mk (D.Circuit.mk s6.2.2.1 s6.2.2.2.2.1) s6.2.2.2.2.2 s6.2.2.2.1) x40 (-1) x41).bind fun x42 =>
                (set? s6.2.1 s6.1 x42.1).bind fun x43 =>
                some (.inl ((w64 (s6.1 + 1)), x43, x42.2.c.Inputs, x42.2.full, x42.2.c.Gates, x42.2.line))
            else
              if ((decide ((w64 (s6.1 + x33)) ≥ 0)) && (decide ((w64 (s6.1 + x33)) < (len p2)))) then
                (get? x32 (w64 (s6.1 + x33))).bind fun x44 =>
                (get? p3 s5.1).bind fun x45 =>
                (get? x32 s6.1).bind fun x46 =>
                (impl_builder_choose (D.builder.mk (D.Circuit.mk s6.2.2.1 s6.2.2.2.2.1) s6.2.2.2.2.2 s6.2.2.2.1) x45 x44 x46).bind fun x47 =>
                (set? s6.2.1 s6.1 x47.1).bind fun x48 =>
                some (.inl ((w64 (s6.1 + 1)), x48, x47.2.c.Inputs, x47.2.full, x47.2.c.Gates, x47.2.line))
              else
                (get? p3 s5.1).bind fun x49 =>
                (get? x32 s6.1).bind fun x50 =>
                (impl_builder_choose (D.builder.mk (D.Circuit.mk s6.2.2.1 s6.2.2.2.2.1) s6.2.2.2.2.2 s6.2.2.2.1) x49 (-1) x50).bind fun x51 =>
                (set? s6.2.1 s6.1 x51.1).bind fun x52 =>
                some (.inl ((w64 (s6.1 + 1)), x52, x51.2.c.Inputs, x51.2.full, x51.2.c.Gates, x51.2.line))
          else
            some (.inr (s6.2.1, s6.2.2.1, s6.2.2.2.1, s6.2.2.2.2.1, s6.2.2.2.2.2))
        ) n (0, s5.2.1, s5.2.2.1, s5.2.2.2.1, s5.2.2.2.2.1, s5.2.2.2.2.2)).bind fun (rl6 : (List Int) × Int × Bool × (List D.Gate) × (List (D.Gate × Int))) =>
        some (.inl ((w64 (s5.1 + 1)), rl6.1, rl6.2.1, rl6.2.2.1, rl6.2.2.2.1, rl6.2.2.2.2))
      else
        some (.inr (s5.1, s5.2.1, s5.2.2.1, s5.2.2.2.1, s5.2.2.2.2.1, s5.2.2.2.2.2))
    ) n (0, x30, p0.c.Inputs, p0.full, p0.c.Gates, p0.line)).bind fun (rl5 : Int × (List Int) × Int × Bool × (List D.Gate) × (List (D.Gate × Int))) =>
    if (decide (rl5.1 < (len p2))) then
      (iterN (fun (s7 : Int × Int × Int × Bool × (List D.Gate) × (List (D.Gate × Int))) =>
        if (decide (s7.1 < (len p2))) then
          (get? p3 s7.1).bind fun x53 =>
          (impl_builder_or (D.builder.mk (D.Circuit.mk s7.2.2.1 s7.2.2.2.2.1) s7.2.2.2.2.2 s7.2.2.2.1) s7.2.1 x53).bind fun x54 =>
          some (.inl ((w64 (s7.1 + 1)), x54.1, x54.2.c.Inputs, x54.2.full, x54.2.c.Gates, x54.2.line))
        else
          some (.inr (s7.2.1, s7.2.2.1, s7.2.2.2.1, s7.2.2.2.2.1, s7.2.2.2.2.2))
      ) n (rl5.1, (-1), rl5.2.2.1, rl5.2.2.2.1, rl5.2.2.2.2.1, rl5.2.2.2.2.2)).bind fun (rl7 : Int × Int × Bool × (List D.Gate) × (List (D.Gate × Int))) =>
      (iterN (fun (s8 : Int × (List Int) × Int × Bool × (List D.Gate) × (List (D.Gate × Int))) =>
        if (decide (s8.1 < (len x30))) then
          (get? s8.2.1 s8.1).bind fun x55 =>
          (impl_builder_choose (D.builder.mk (D.Circuit.mk s8.2.2.1 s8.2.2.2.2.1) s8.2.2.2.2.2 s8.2.2.2.1) rl7.1 (-1) x55).bind fun x56 =>
          (set? s8.2.1 s8.1 x56.1).bind fun x57 =>
          some (.inl ((w64 (s8.1 + 1)), x57, x56.2.c.Inputs, x56.2.full, x56.2.c.Gates, x56.2.line))
        else
          some (.inr (s8.2.1, s8.2.2.1, s8.2.2.2.1, s8.2.2.2.2.1, s8.2.2.2.2.2))
      ) n (0, rl5.2.1, rl7.2.1, rl7.2.2.1, rl7.2.2.2.1, rl7.2.2.2.2)).bind fun (rl8 : (List Int) × Int × Bool × (List D.Gate) × (List (D.Gate × Int))) =>
      some (rl8.1, (D.builder.mk (D.Circuit.mk rl8.2.1 rl8.2.2.2.1) rl8.2.2.2.2 rl8.2.2.1))
    else
      some (rl5.2.1, (D.builder.mk (D.Circuit.mk rl5.2.2.1 rl5.2.2.2.2.1) rl5.2.2.2.2.2 rl5.2.2.2.1))

def impl_builder_equal (n : Nat) (p0 : D.builder) (p1 : List Int) (p2 : List Int) : Option (Int × D.builder) :=
  (iterN (fun (s1 : Int × Int × Int × Bool × (List D.Gate) × (List (D.Gate × Int))) =>
    if (decide (s1.2.1 < (len p1))) then
      (get? p1 s1.2.1).bind fun x1 =>
      (get? p2 s1.2.1).bind fun x2 =>
      (impl_builder_xor (D.builder.mk (D.Circuit.mk s1.2.2.1 s1.2.2.2.2.1) s1.2.2.2.2.2 s1.2.2.2.1) x1 x2).bind fun x3 =>
      (impl_builder_and x3.2 s1.1 (w64 (0 - x3.1))).bind fun x4 =>
      some (.inl (x4.1, (w64 (s1.2.1 + 1)), x4.2.c.Inputs, x4.2.full, x4.2.c.Gates, x4.2.line))
    else
      some (.inr (s1.1, s1.2.2.1, s1.2.2.2.1, s1.2.2.2.2.1, s1.2.2.2.2.2))
  ) n (1, 0, p0.c.Inputs, p0.full, p0.c.Gates, p0.line)).bind fun (rl1 : Int × Int × Bool × (List D.Gate) × (List (D.Gate × Int))) =>
  some (rl1.1, (D.builder.mk (D.Circuit.mk rl1.2.1 rl1.2.2.2.1) rl1.2.2.2.2 rl1.2.2.1))

def impl_builder_less (n : Nat) (p0 : D.builder) (p1 : List Int) (p2 : List Int) : Option (Int × D.builder) :=
  (impl_opposites n p2).bind fun x1 =>
  (impl_builder_add n p0 p1 x1 1).bind fun x2 =>
  some ((w64 (0 - x2.2.1)), x2.2.2)

def impl_signTurned (p0 : List Int) : Option (List Int) :=
  (slices_Clone___int_int_ p0).bind fun x1 =>
  (get? x1 (w64 ((len x1) - 1))).bind fun x2 =>
  (set? x1 (w64 ((len x1) - 1)) (w64 (0 - x2))).bind fun x3 =>
  some x3

def impl_builder_operate (n : Nat) (p0 : D.builder) (p1 : Int) (p2 : List Int) (p3 : List Int) : Option ((List Int) × D.builder) :=
  if (p1 == 3) then
    (impl_builder_add n p0 p2 p3 (-1)).bind fun x1 =>
    some (x1.1, x1.2.2)
  else
    if (p1 == 4) then
      (impl_opposites n p3).bind fun x2 =>
      (impl_builder_add n p0 p2 x2 1).bind fun x3 =>
      some (x3.1, x3.2.2)
    else
      if (p1 == 5) then
        (impl_builder_multiply n p0 p2 p3).bind fun x4 =>
        some (x4.1, x4.2)
      else
        if (p1 == 6) then
          (impl_builder_divide n p0 p2 p3).bind fun x5 =>
          some (x5.1, x5.2.2)
        else
          if (p1 == 7) then
            (impl_builder_divide n p0 p2 p3).bind fun x6 =>
            some (x6.2.1, x6.2.2)
          else
            if (p1 == 11) then
              if (p1 == 11) then
                (impl_builder_shift n p0 p1 p2 p3).bind fun x7 =>
                some (x7.1, x7.2)
              else
                if (p1 == 14) then
                  (impl_builder_equal n p0 p2 p3).bind fun x8 =>
                  some (([x8.1] : List Int), x8.2)
                else
                  if (p1 == 15) then
                    (impl_builder_less n p0 p2 p3).bind fun x9 =>
                    some (([x9.1] : List Int), x9.2)
                  else
                    if (p1 == 16) then
                      (impl_signTurned p2).bind fun x10 =>
                      (impl_signTurned p3).bind fun x11 =>
                      (impl_builder_less n p0 x10 x11).bind fun x12 =>
                      some (([x12.1] : List Int), x12.2)
                    else
                      (mk? (len p2) (0 : Int)).bind fun x13 =>
                      (iterN (fun (s1 : Int × (List Int) × Int × Bool × (List D.Gate) × (List (D.Gate × Int))) =>
                        if (decide (s1.1 < (len p2))) then
                          if (p1 == 8) then
                            (get? p2 s1.1).bind fun x14 =>
                            (get? p3 s1.1).bind fun x15 =>
                            (impl_builder_and (D.builder.mk (D.Circuit.mk s1.2.2.1 s1.2.2.2.2.1) s1.2.2.2.2.2 s1.2.2.2.1) x14 x15).bind fun x16 =>
                            (set? s1.2.1 s1.1 x16.1).bind fun x17 =>
                            some (.inl ((w64 (s1.1 + 1)), x17, x16.2.c.Inputs, x16.2.full, x16.2.c.Gates, x16.2.line))
                          else
                            if (p1 == 9) then
                              (get? p2 s1.1).bind fun x18 =>
                              (get? p3 s1.1).bind fun x19 =>
                              (impl_builder_or (D.builder.mk (D.Circuit.mk s1.2.2.1 s1.2.2.2.2.1) s1.2.2.2.2.2 s1.2.2.2.1) x18 x19).bind fun x20 =>
                              (set? s1.2.1 s1.1 x20.1).bind fun x21 =>
                              some (.inl ((w64 (s1.1 + 1)), x21, x20.2.c.Inputs, x20.2.full, x20.2.c.Gates, x20.2.line))
                            else
                              (get? p2 s1.1).bind fun x22 =>
                              (get? p3 s1.1).bind fun x23 =>
                              (impl_builder_xor (D.builder.mk (D.Circuit.mk s1.2.2.1 s1.2.2.2.2.1) s1.2.2.2.2.2 s1.2.2.2.1) x22 x23).bind fun x24 =>
                              (set? s1.2.1 s1.1 x24.1).bind fun x25 =>
                              some (.inl ((w64 (s1.1 + 1)), x25, x24.2.c.Inputs, x24.2.full, x24.2.c.Gates, x24.2.line))
                        else
                          some (.inr (s1.2.1, s1.2.2.1, s1.2.2.2.1, s1.2.2.2.2.1, s1.2.2.2.2.2))
                      ) n (0, x13, p0.c.Inputs, p0.full, p0.c.Gates, p0.line)).bind fun (rl1 : (List Int) × Int × Bool × (List D.Gate) × (List (D.Gate × Int))) =>
                      some (rl1.1, (D.builder.mk (D.Circuit.mk rl1.2.1 rl1.2.2.2.1) rl1.2.2.2.2 rl1.2.2.1))
            else
              if ((p1 == 12) || (p1 == 13)) then
                (impl_builder_shift n p0 p1 p2 p3).bind fun x26 =>
                some (x26.1, x26.2)
              else
                if (p1 == 14) then
                  (impl_builder_equal n p0 p2 p3).bind fun x27 =>
                  some (([x27.1] : List Int), x27.2)
                else
                  if (p1 == 15) then
                    (impl_builder_less n p0 p2 p3).bind fun x28 =>
                    some (([x28.1] : List Int), x28.2)
                  else
                    if (p1 == 16) then
                      (impl_signTurned p2).bind fun x29 =>
                      (impl_signTurned p3).bind fun x30 =>
                      (impl_builder_less n p0 x29 x30).bind fun x31 =>
                      some (([x31.1] : List Int), x31.2)
                    else
                      (mk? (len p2) (0 : Int)).bind fun x32 =>
                      (iterN (fun (s2 : Int × (List Int) × Int × Bool × (List D.Gate) × (List (D.Gate × Int))) =>
                        if (decide (s2.1 < (len p2))) then
                          if (p1 == 8) then
                            (get? p2 s2.1).bind fun x33 =>
                            (get? p3 s2.1).bind fun x34 =>
                            (impl_builder_and (D.builder.mk (D.Circuit.mk s2.2.2.1 s2.2.2.2.2.1) s2.2.2.2.2.2 s2.2.2.2.1) x33 x34).bind fun x35 =>
                            (set? s2.2.1 s2.1 x35.1).bind fun x36 =>
                            some (.inl ((w64 (s2.1 + 1)), x36, x35.2.c.Inputs, x35.2.full, x35.2.c.Gates, x35.2.line))
                          else
                            if (p1 == 9) then
                              (get? p2 s2.1).bind fun x37 =>
                              (get? p3 s2.1).bind fun x38 =>
                              (impl_builder_or (D.builder.mk (D.Circuit.mk s2.2.2.1 s2.2.2.2.2.1) s2.2.2.2.2.2 s2.2.2.2.1) x37 x38).bind fun x39 =>
                              (set? s2.2.1 s2.1 x39.1).bind fun x40 =>
                              some (.inl ((w64 (s2.1 + 1)), x40, x39.2.c.Inputs, x39.2.full, x39.2.c.Gates, x39.2.line))
                            else
                              (get? p2 s2.1).bind fun x41 =>
                              (get? p3 s2.1).bind fun x42 =>
                              (impl_builder_xor (D.builder.mk (D.Circuit.mk s2.2.2.1 s2.2.2.2.2.1) s2.2.2.2.2.2 s2.2.2.2.1) x41 x42).bind fun x43 =>
                              (set? s2.2.1 s2.1 x43.1).bind fun x44 =>
                              some (.inl ((w64 (s2.1 + 1)), x44, x43.2.c.Inputs, x43.2.full, x43.2.c.Gates, x43.2.line))
                        else
                          some (.inr (s2.2.1, s2.2.2.1, s2.2.2.2.1, s2.2.2.2.2.1, s2.2.2.2.2.2))
                      ) n (0, x32, p0.c.Inputs, p0.full, p0.c.Gates, p0.line)).bind fun (rl2 : (List Int) × Int × Bool × (List D.Gate) × (List (D.Gate × Int))) =>
                      some (rl2.1, (D.builder.mk (D.Circuit.mk rl2.2.1 rl2.2.2.2.1) rl2.2.2.2.2 rl2.2.2.1))

def impl_OpLits (n : Nat) (p0 : D.Circuit) (p1 : Int) (p2 : List Int) (p3 : List Int) : Option (D.Circuit × (List Int) × Bool) :=
  (impl_CircuitOk n p0).bind fun x1 =>
  (if (!x1) then some default else (impl_isTwoWords p1)).bind fun x2 =>
  if (((((!x1) || (!x2)) || ((len p2) != (len p3))) || (decide ((len p2) < 1))) || (decide ((len p2) > 15))) then
    some ((D.Circuit.mk 0 ([] : List D.Gate)), ([] : List Int), false)
  else
    (impl_linesOf p0).bind fun x3 =>
    (impl_literalsOk n p2 x3).bind fun x4 =>
    (if (!x4) then some default else (impl_linesOf p0)).bind fun x5 =>
    (if (!x4) then some default else (impl_literalsOk n p3 x5)).bind fun x6 =>
    if ((!x4) || (!x6)) then
      some ((D.Circuit.mk 0 ([] : List D.Gate)), ([] : List Int), false)
    else
      (impl_newBuilder n p0).bind fun x7 =>
      (impl_builder_operate n x7 p1 p2 p3).bind fun x8 =>
      if x8.2.full then
        some ((D.Circuit.mk 0 ([] : List D.Gate)), ([] : List Int), false)
      else
        some (x8.2.c, x8.1, true)

def spec_l01In (p0 : Int) (p1 : Int) (p2 : Int) : Option Bool :=
  some ((decide (p0 ≥ p1)) && (decide (p0 ≤ p2)))

def spec_ResultWidth (p0 : Int) (p1 : Int) : Option Int :=
  (spec_l01In p1 1 16).bind fun x1 =>
  (if (!x1) then some default else (spec_l01In p0 1 16)).bind fun x2 =>
  if ((!x1) || (!x2)) then
    some 0
  else
    if (decide (p0 ≥ 14)) then
      some 1
    else
      some p1

def laws_bools (n : Nat) (p0 : Int) (p1 : Int) : Option (List Bool) :=
  (iterN (fun (s1 : Int × (List Bool)) =>
    if (decide (s1.1 < p0)) then
      (shr? p1 s1.1).bind fun x1 =>
      (app? s1.2 ([((band x1 1) == 1)] : List Bool)).bind fun x2 =>
      some (.inl ((w64 (s1.1 + 1)), x2))
    else
      some (.inr (s1.2))
  ) n (0, ([] : List Bool))).bind fun (rl1 : (List Bool)) =>
  some rl1

def impl_litTrue (p0 : List Bool) (p1 : Int) : Option Bool :=
  if (decide (p1 < 0)) then
    (get? p0 (w64 ((w64 (0 - p1)) - 1))).bind fun x1 =>
    some (!x1)
  else
    (get? p0 (w64 (p1 - 1))).bind fun x2 =>
    some x2

def impl_EvalCircuit (n : Nat) (p0 : D.Circuit) (p1 : List Bool) : Option (List Bool) :=
  (impl_CircuitOk n p0).bind fun x1 =>
  if ((!x1) || ((len p1) != p0.Inputs)) then
    some ([] : List Bool)
  else
    (app? ([true] : List Bool) p1).bind fun x2 =>
    (iterN (fun (s1 : Int × (List Bool)) =>
      if (decide (s1.1 < (len p0.Gates))) then
        (get? p0.Gates s1.1).bind fun x3 =>
        (impl_litTrue s1.2 x3.A).bind fun x4 =>
        (if x4 then (impl_litTrue s1.2 x3.B) else some default).bind fun x5 =>
        (app? s1.2 ([(x4 && x5)] : List Bool)).bind fun x6 =>
        some (.inl ((w64 (s1.1 + 1)), x6))
      else
        some (.inr (s1.2))
    ) n (0, x2)).bind fun (rl1 : (List Bool)) =>
    some rl1

def laws_word (n : Nat) (p0 : List Bool) (p1 : List Int) : Option Int :=
  (iterN (fun (s1 : Int × Int) =>
    if (decide (s1.2 < (len p1))) then
      (get? p1 s1.2).bind fun x1 =>
      if ((decide ((cond (decide (x1 < 0)) (w64 (0 - x1)) x1) < 1)) || (decide ((cond (decide (x1 < 0)) (w64 (0 - x1)) x1) > (len p0)))) then
        some (.inr (.inr (-1)))
      else
        (get? p0 (w64 ((cond (decide (x1 < 0)) (w64 (0 - x1)) x1) - 1))).bind fun x2 =>
        if (x2 == (decide (x1 > 0))) then
          (shl? 1 s1.2).bind fun x3 =>
          some (.inl ((w64 (s1.1 + x3)), (w64 (s1.2 + 1))))
        else
          some (.inl (s1.1, (w64 (s1.2 + 1))))
    else
      some (.inr (.inl (s1.1)))
  ) n (0, 0)).bind fun (rl1 : (Int) ⊕ Int) =>
  match rl1 with
  | .inl s1r =>
    some s1r
  | .inr v => some v

def spec_WordOk (p0 : Int) (p1 : Int) : Option Bool :=
  (spec_l01In p0 1 16).bind fun x1 =>
  (if x1 then (shl? 1 p0) else some default).bind fun x2 =>
  (if x1 then (spec_l01In p1 0 (w64 (x2 - 1))) else some default).bind fun x3 =>
  some (x1 && x3)

def spec_WordOf (p0 : Int) (p1 : Int) : Option Int :=
  (spec_l01In p0 1 16).bind fun x1 =>
  if (!x1) then
    some (-1)
  else
    (shl? 1 p0).bind fun x2 =>
    some (band p1 (w64 (x2 - 1)))

def spec_SignedOf (p0 : Int) (p1 : Int) : Option Int :=
  (spec_WordOk p0 p1).bind fun x1 =>
  if (!x1) then
    some 0
  else
    (shr? p1 (w64 (p0 - 1))).bind fun x2 =>
    if (x2 == 1) then
      (shl? 1 p0).bind fun x3 =>
      some (w64 (p1 - x3))
    else
      some p1

def spec_l01Truth (p0 : Bool) : Option Int :=
  if p0 then
    some 1
  else
    some 0

def spec_ApplyBinary (p0 : Int) (p1 : Int) (p2 : Int) (p3 : Int) : Option Int :=
  (spec_WordOk p1 p2).bind fun x1 =>
  (if (!x1) then some default else (spec_WordOk p1 p3)).bind fun x2 =>
  if ((!x1) || (!x2)) then
    some (-1)
  else
    if (p0 == 3) then
      (spec_WordOf p1 (w64 (p2 + p3))).bind fun x3 =>
      some x3
    else
      if (p0 == 4) then
        (spec_WordOf p1 (w64 (p2 - p3))).bind fun x4 =>
        some x4
      else
        if (p0 == 5) then
          (spec_WordOf p1 (w64 (p2 * p3))).bind fun x5 =>
          some x5
        else
          if (p0 == 6) then
            if (p3 == 0) then
              (shl? 1 p1).bind fun x6 =>
              some (w64 (x6 - 1))
            else
              (quo? p2 p3).bind fun x7 =>
              some x7
          else
            if (p0 == 7) then
              if (p3 == 0) then
                some p2
              else
                (rem? p2 p3).bind fun x8 =>
                some x8
            else
              if (p0 == 8) then
                some (band p2 p3)
              else
                if (p0 == 9) then
                  some (bor p2 p3)
                else
                  if (p0 == 10) then
                    some (bxor p2 p3)
                  else
                    if (p0 == 11) then
                      if (decide (p3 ≥ p1)) then
                        some 0
                      else
                        (shl? p2 p3).bind fun x9 =>
                        (spec_WordOf p1 x9).bind fun x10 =>
                        some x10
                    else
                      if (p0 == 12) then
                        if (decide (p3 ≥ p1)) then
                          some 0
                        else
                          (shr? p2 p3).bind fun x11 =>
                          some x11
                      else
                        if (p0 == 13) then
                          (spec_SignedOf p1 p2).bind fun x12 =>
                          (shr? x12 (cond (decide (p3 ≥ p1)) (w64 (p1 - 1)) p3)).bind fun x13 =>
                          (spec_WordOf p1 x13).bind fun x14 =>
                          some x14
                        else
                          if (p0 == 14) then
                            (spec_l01Truth (p2 == p3)).bind fun x15 =>
                            some x15
                          else
                            if (p0 == 15) then
                              (spec_l01Truth (decide (p2 < p3))).bind fun x16 =>
                              some x16
                            else
                              if (p0 == 16) then
                                (spec_SignedOf p1 p2).bind fun x17 =>
                                (spec_SignedOf p1 p3).bind fun x18 =>
                                (spec_l01Truth (decide (x17 < x18))).bind fun x19 =>
                                some x19
                              else
                                some (-1)

def laws_FnOperations (n : Nat) (p0 : List Byt) : Option Bool :=
  if (decide ((len p0) > 1048576)) then
    some true
  else
    (spec_GiveCircuit n p0 0).bind fun x1 =>
    (spec_GiveSize n p0 40 1 4).bind fun x2 =>
    (iterN (fun (s1 : Int × (List Int) × (List Int)) =>
      if (decide (s1.1 < x2)) then
        (spec_GiveLit n p0 (w64 (50 + s1.1)) x1).bind fun x3 =>
        (app? s1.2.2 ([x3] : List Int)).bind fun x4 =>
        (spec_GiveLit n p0 (w64 (60 + s1.1)) x1).bind fun x5 =>
        (app? s1.2.1 ([x5] : List Int)).bind fun x6 =>
        some (.inl ((w64 (s1.1 + 1)), x6, x4))
      else
        some (.inr (s1.2.1, s1.2.2))
    ) n (0, ([] : List Int), ([] : List Int))).bind fun (rl1 : (List Int) × (List Int)) =>
    (spec_GiveSize n p0 42 3 16).bind fun x7 =>
    (impl_OpLits n x1 x7 rl1.2 rl1.1).bind fun x8 =>
    (if (!x8.2.2) then some default else (impl_CircuitOk n x8.1)).bind fun x9 =>
    (if ((((!x8.2.2) || (!x9)) || (x8.1.Inputs != x1.Inputs)) || (decide ((len x8.1.Gates) < (len x1.Gates)))) then some default else (spec_ResultWidth x7 x2)).bind fun x10 =>
    if (((((!x8.2.2) || (!x9)) || (x8.1.Inputs != x1.Inputs)) || (decide ((len x8.1.Gates) < (len x1.Gates)))) || ((len x8.2.1) != x10)) then
      some false
    else
      (iterN (fun (s2 : Int) =>
        if (decide (s2 < (len x1.Gates))) then
          (get? x1.Gates s2).bind fun x11 =>
          (get? x8.1.Gates s2).bind fun x12 =>
          if (!decide (x12 = x11)) then
            some (.inr (.inr false))
          else
            some (.inl ((w64 (s2 + 1))))
        else
          some (.inr (.inl ()))
      ) n (0)).bind fun (rl2 : (Unit) ⊕ Bool) =>
      match rl2 with
      | .inl s2r =>
        (iterN (fun (s3 : Int) =>
          (shl? 1 x1.Inputs).bind fun x13 =>
          if (decide (s3 < x13)) then
            (laws_bools n x1.Inputs s3).bind fun x14 =>
            (impl_EvalCircuit n x8.1 x14).bind fun x15 =>
            (laws_word n x15 x8.2.1).bind fun x16 =>
            (laws_word n x15 rl1.2).bind fun x17 =>
            (laws_word n x15 rl1.1).bind fun x18 =>
            (spec_ApplyBinary x7 x2 x17 x18).bind fun x19 =>
            if (x16 != x19) then
              some (.inr (.inr false))
            else
              some (.inl ((w64 (s3 + 1))))
          else
            some (.inr (.inl ()))
        ) n (0)).bind fun (rl3 : (Unit) ⊕ Bool) =>
        match rl3 with
        | .inl s3r =>
          some true
        | .inr v => some v
      | .inr v => some v
end Go.GL
