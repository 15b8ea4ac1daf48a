/- Printed by gen2.py: Go functions as Lean functions. -/
import Derived.Test.YtckeihpjfeonmaaGLp
set_option linter.unusedVariables false
namespace Go.GL
def laws_szGateS (p0 : List D.Gate) (p1 : Int) : Option Int :=
  if (decide ((w64 (p1 - (len p0))) < 0)) then
    some (-1)
  else
    some (w64 (p1 - (len p0)))

def laws_szCircuit (p0 : D.Circuit) (p1 : Int) : Option Int :=
  (laws_szGateS p0.Gates p1).bind fun x1 =>
  if (decide (x1 < 0)) then
    some (-1)
  else
    some x1

def laws_toGate (p0 : D.Gate) : Option D.Gate :=
  some p0

def laws_toGateS (n : Nat) (p0 : List D.Gate) : Option (List D.Gate) :=
  (mk? (len p0) ((D.Gate.mk 0 0) : D.Gate)).bind fun x1 =>
  (iterN (fun (s1 : Int × (List D.Gate)) =>
    if (decide (s1.1 < (len p0))) then
      (get? p0 s1.1).bind fun x2 =>
      (laws_toGate x2).bind fun x3 =>
      (set? s1.2 s1.1 x3).bind fun x4 =>
      some (.inl ((w64 (s1.1 + 1)), x4))
    else
      some (.inr (s1.2))
  ) n (0, x1)).bind fun (rl1 : (List D.Gate)) =>
  some rl1

def laws_toCircuit (n : Nat) (p0 : D.Circuit) : Option D.Circuit :=
  (laws_toGateS n p0.Gates).bind fun x1 =>
  some (D.Circuit.mk p0.Inputs x1)

def laws_toIntS (n : Nat) (p0 : List Int) : Option (List Int) :=
  (mk? (len p0) (0 : Int)).bind fun x1 =>
  (iterN (fun (s1 : Int × (List Int)) =>
    if (decide (s1.1 < (len p0))) then
      (get? p0 s1.1).bind fun x2 =>
      (set? s1.2 s1.1 x2).bind fun x3 =>
      some (.inl ((w64 (s1.1 + 1)), x3))
    else
      some (.inr (s1.2))
  ) n (0, x1)).bind fun (rl1 : (List Int)) =>
  some rl1

def spec_l01In (p0 : Int) (p1 : Int) (p2 : Int) : Option Bool :=
  some ((decide (p0 ≥ p1)) && (decide (p0 ≤ p2)))

def spec_l03Abs (p0 : Int) : Option Int :=
  if (decide (p0 < 0)) then
    some (w64 (0 - p0))
  else
    some p0

def spec_CircuitOk (n : Nat) (p0 : D.Circuit) : Option Bool :=
  (spec_l01In p0.Inputs 0 30).bind fun x1 =>
  if ((!x1) || (decide ((len p0.Gates) > 360))) then
    some false
  else
    (iterN (fun (s1 : Int) =>
      if (decide (s1 < (len p0.Gates))) then
        (get? p0.Gates s1).bind fun x2 =>
        (spec_l01In x2.A (w64 (0 - (w64 ((w64 (p0.Inputs + 1)) + s1)))) (w64 ((w64 (p0.Inputs + 1)) + s1))).bind fun x3 =>
        (if (!x3) then some default else (spec_l01In x2.B (w64 (0 - (w64 ((w64 (p0.Inputs + 1)) + s1)))) (w64 ((w64 (p0.Inputs + 1)) + s1)))).bind fun x4 =>
        (if ((!x3) || (!x4)) then some default else (spec_l03Abs x2.A)).bind fun x5 =>
        (if (((!x3) || (!x4)) || (decide (x5 < 2))) then some default else (spec_l03Abs x2.A)).bind fun x6 =>
        (if (((!x3) || (!x4)) || (decide (x5 < 2))) then some default else (spec_l03Abs x2.B)).bind fun x7 =>
        if ((((!x3) || (!x4)) || (decide (x5 < 2))) || (decide (x6 ≥ x7))) then
          some (.inr (.inr false))
        else
          (cut? p0.Gates 0 s1).bind fun x8 =>
          (iterN (fun (s2 : Int) =>
            if (decide (s2 < (len x8))) then
              (get? x8 s2).bind fun x9 =>
              if (decide (x2 = x9)) then
                some (.inr (.inr false))
              else
                some (.inl ((w64 (s2 + 1))))
            else
              some (.inr (.inl ()))
          ) n (0)).bind fun (rl2 : (Unit) ⊕ Bool) =>
          match rl2 with
          | .inl s2r =>
            some (.inl ((w64 (s1 + 1))))
          | .inr v => some (.inr (.inr v))
      else
        some (.inr (.inl ()))
    ) n (0)).bind fun (rl1 : (Unit) ⊕ Bool) =>
    match rl1 with
    | .inl s1r =>
      some true
    | .inr v => some v

def spec_l03Lits (n : Nat) (p0 : List Int) (p1 : Int) : Option Bool :=
  (iterN (fun (s1 : Int) =>
    if (decide (s1 < (len p0))) then
      (get? p0 s1).bind fun x1 =>
      (if (x1 == 0) then some default else (spec_l01In x1 (w64 (0 - p1)) p1)).bind fun x2 =>
      if ((x1 == 0) || (!x2)) then
        some (.inr (.inr false))
      else
        some (.inl ((w64 (s1 + 1))))
    else
      some (.inr (.inl ()))
  ) n (0)).bind fun (rl1 : (Unit) ⊕ Bool) =>
  match rl1 with
  | .inl s1r =>
    some true
  | .inr v => some v

def spec_l04Lits (n : Nat) (p0 : D.Circuit) (p1 : List Int) : Option Bool :=
  (spec_l03Lits n p1 (w64 ((w64 (p0.Inputs + 1)) + (len p0.Gates)))).bind fun x1 =>
  some x1

def spec_l04New (p0 : D.Circuit) : Option D.l04Net :=
  (app? ([] : List D.Gate) p0.Gates).bind fun x1 =>
  some (D.l04Net.mk (D.Circuit.mk p0.Inputs x1) false)

def spec_l04Net_l04And (n : Nat) (p0 : D.l04Net) (p1 : Int) (p2 : Int) : Option (Int × D.l04Net) :=
  if (((p1 == (-1)) || (p2 == (-1))) || (p1 == (w64 (0 - p2)))) then
    some ((-1), p0)
  else
    if (p1 == 1) then
      some (p2, p0)
    else
      if ((p2 == 1) || (p1 == p2)) then
        some (p1, p0)
      else
        (spec_l03Abs p1).bind fun x1 =>
        (spec_l03Abs p2).bind fun x2 =>
        (iterN (fun (s1 : Int) =>
          if (decide (s1 < (len p0.c.Gates))) then
            (get? p0.c.Gates s1).bind fun x3 =>
            if (decide ((D.Gate.mk (cond (decide (x1 > x2)) p2 p1) (cond (decide (x1 > x2)) p1 p2)) = x3)) then
              some (.inr (.inr ((w64 ((w64 (p0.c.Inputs + 2)) + s1)), p0)))
            else
              some (.inl ((w64 (s1 + 1))))
          else
            some (.inr (.inl ()))
        ) n (0)).bind fun (rl1 : (Unit) ⊕ (Int × D.l04Net)) =>
        match rl1 with
        | .inl s1r =>
          if (decide ((len p0.c.Gates) ≥ 360)) then
            some ((-1), (D.l04Net.mk p0.c true))
          else
            (app? p0.c.Gates ([(D.Gate.mk (cond (decide (x1 > x2)) p2 p1) (cond (decide (x1 > x2)) p1 p2))] : List D.Gate)).bind fun x4 =>
            some ((w64 ((w64 (p0.c.Inputs + 1)) + (len x4))), (D.l04Net.mk (D.Circuit.mk p0.c.Inputs x4) p0.full))
        | .inr v => some v

def spec_l04Net_l04Or (n : Nat) (p0 : D.l04Net) (p1 : Int) (p2 : Int) : Option (Int × D.l04Net) :=
  (spec_l04Net_l04And n p0 (w64 (0 - p1)) (w64 (0 - p2))).bind fun x1 =>
  some ((w64 (0 - x1.1)), x1.2)

def spec_l04Net_l04Xor (n : Nat) (p0 : D.l04Net) (p1 : Int) (p2 : Int) : Option (Int × D.l04Net) :=
  (spec_l04Net_l04And n p0 p1 (w64 (0 - p2))).bind fun x1 =>
  (spec_l04Net_l04And n x1.2 (w64 (0 - p1)) p2).bind fun x2 =>
  (spec_l04Net_l04Or n x2.2 x1.1 x2.1).bind fun x3 =>
  some (x3.1, x3.2)

def spec_l04Net_l04Add (n : Nat) (p0 : D.l04Net) (p1 : List Int) (p2 : List Int) (p3 : Int) : Option ((List Int) × Int × D.l04Net) :=
  (iterN (fun (s1 : Int × Int × (List Int) × Int × Bool × (List D.Gate)) =>
    if (decide (s1.2.1 < (len p1))) then
      (get? p1 s1.2.1).bind fun x1 =>
      (get? p2 s1.2.1).bind fun x2 =>
      (spec_l04Net_l04Xor n (D.l04Net.mk (D.Circuit.mk s1.2.2.2.1 s1.2.2.2.2.2) s1.2.2.2.2.1) x1 x2).bind fun x3 =>
      (spec_l04Net_l04Xor n x3.2 x3.1 s1.1).bind fun x4 =>
      (app? s1.2.2.1 ([x4.1] : List Int)).bind fun x5 =>
      (get? p1 s1.2.1).bind fun x6 =>
      (get? p2 s1.2.1).bind fun x7 =>
      (spec_l04Net_l04And n x4.2 x6 x7).bind fun x8 =>
      (spec_l04Net_l04And n x8.2 x3.1 s1.1).bind fun x9 =>
      (spec_l04Net_l04Or n x9.2 x8.1 x9.1).bind fun x10 =>
      some (.inl (x10.1, (w64 (s1.2.1 + 1)), x5, x10.2.c.Inputs, x10.2.full, x10.2.c.Gates))
    else
      some (.inr (s1.1, s1.2.2.1, s1.2.2.2.1, s1.2.2.2.2.1, s1.2.2.2.2.2))
  ) n (p3, 0, ([] : List Int), p0.c.Inputs, p0.full, p0.c.Gates)).bind fun (rl1 : Int × (List Int) × Int × Bool × (List D.Gate)) =>
  some (rl1.2.1, rl1.1, (D.l04Net.mk (D.Circuit.mk rl1.2.2.1 rl1.2.2.2.2) rl1.2.2.2.1))

def spec_l04Not (n : Nat) (p0 : List Int) : Option (List Int) :=
  (iterN (fun (s1 : Int × (List Int)) =>
    if (decide (s1.1 < (len p0))) then
      (get? p0 s1.1).bind fun x1 =>
      (app? s1.2 ([(w64 (0 - x1))] : List Int)).bind fun x2 =>
      some (.inl ((w64 (s1.1 + 1)), x2))
    else
      some (.inr (s1.2))
  ) n (0, ([] : List Int))).bind fun (rl1 : (List Int)) =>
  some rl1

def spec_l04Fill (n : Nat) (p0 : Int) (p1 : Int) : Option (List Int) :=
  (iterN (fun (s1 : Int × (List Int)) =>
    if (decide (s1.1 < p0)) then
      (app? s1.2 ([p1] : List Int)).bind fun x1 =>
      some (.inl ((w64 (s1.1 + 1)), x1))
    else
      some (.inr (s1.2))
  ) n (0, ([] : List Int))).bind fun (rl1 : (List Int)) =>
  some rl1

def spec_l04Net_l04Mul (n : Nat) (p0 : D.l04Net) (p1 : List Int) (p2 : List Int) : Option ((List Int) × D.l04Net) :=
  (spec_l04Fill n (len p1) (-1)).bind fun x1 =>
  (iterN (fun (s1 : Int × (List Int) × Int × Bool × (List D.Gate)) =>
    if (decide (s1.1 < (len p1))) then
      (iterN (fun (s2 : Int × (List Int) × Int × Bool × (List D.Gate)) =>
        if (decide (s2.1 < (w64 ((len p1) - s1.1)))) then
          (get? p2 s1.1).bind fun x2 =>
          (get? p1 s2.1).bind fun x3 =>
          (spec_l04Net_l04And n (D.l04Net.mk (D.Circuit.mk s2.2.2.1 s2.2.2.2.2) s2.2.2.2.1) x2 x3).bind fun x4 =>
          (app? s2.2.1 ([x4.1] : List Int)).bind fun x5 =>
          some (.inl ((w64 (s2.1 + 1)), x5, x4.2.c.Inputs, x4.2.full, x4.2.c.Gates))
        else
          some (.inr (s2.2.1, s2.2.2.1, s2.2.2.2.1, s2.2.2.2.2))
      ) n (0, ([] : List Int), s1.2.2.1, s1.2.2.2.1, s1.2.2.2.2)).bind fun (rl2 : (List Int) × Int × Bool × (List D.Gate)) =>
      (cut? s1.2.1 s1.1 (len s1.2.1)).bind fun x6 =>
      (spec_l04Net_l04Add n (D.l04Net.mk (D.Circuit.mk rl2.2.1 rl2.2.2.2) rl2.2.2.1) (vcut s1.2.1 s1.1 (List.length x6)) rl2.1 (-1)).bind fun x7 =>
      (cut? s1.2.1 0 s1.1).bind fun x8 =>
      (app? ([] : List Int) x8).bind fun x9 =>
      (app? x9 x7.1).bind fun x10 =>
      some (.inl ((w64 (s1.1 + 1)), x10, x7.2.2.c.Inputs, x7.2.2.full, x7.2.2.c.Gates))
    else
      some (.inr (s1.2.1, s1.2.2.1, s1.2.2.2.1, s1.2.2.2.2))
  ) n (0, x1, p0.c.Inputs, p0.full, p0.c.Gates)).bind fun (rl1 : (List Int) × Int × Bool × (List D.Gate)) =>
  some (rl1.1, (D.l04Net.mk (D.Circuit.mk rl1.2.1 rl1.2.2.2) rl1.2.2.1))

def spec_l04Net_l04If (n : Nat) (p0 : D.l04Net) (p1 : Int) (p2 : Int) (p3 : Int) : Option (Int × D.l04Net) :=
  (spec_l04Net_l04And n p0 p1 p2).bind fun x1 =>
  (spec_l04Net_l04And n x1.2 (w64 (0 - p1)) p3).bind fun x2 =>
  (spec_l04Net_l04Or n x2.2 x1.1 x2.1).bind fun x3 =>
  some (x3.1, x3.2)

def spec_l04Net_l04Div (n : Nat) (p0 : D.l04Net) (p1 : List Int) (p2 : List Int) : Option ((List Int) × (List Int) × D.l04Net) :=
  (spec_l04Fill n (len p1) (-1)).bind fun x1 =>
  (spec_l04Fill n (len p1) (-1)).bind fun x2 =>
  (spec_l04Not n p2).bind fun x3 =>
  (app? x3 ([1] : List Int)).bind fun x4 =>
  (iterN (fun (s1 : Int × (List Int) × (List Int) × Int × Bool × (List D.Gate)) =>
    if (decide (s1.1 ≥ 0)) then
      (get? p1 s1.1).bind fun x5 =>
      (app? ([x5] : List Int) s1.2.1).bind fun x6 =>
      (spec_l04Net_l04Add n (D.l04Net.mk (D.Circuit.mk s1.2.2.2.1 s1.2.2.2.2.2) s1.2.2.2.2.1) x6 x4 1).bind fun x7 =>
      (set? s1.2.2.1 s1.1 x7.2.1).bind fun x8 =>
      (iterN (fun (s2 : Int × (List Int) × Int × Bool × (List D.Gate)) =>
        if (decide (s2.1 < (len p1))) then
          (get? x7.1 s2.1).bind fun x9 =>
          (get? x6 s2.1).bind fun x10 =>
          (spec_l04Net_l04If n (D.l04Net.mk (D.Circuit.mk s2.2.2.1 s2.2.2.2.2) s2.2.2.2.1) x7.2.1 x9 x10).bind fun x11 =>
          (app? s2.2.1 ([x11.1] : List Int)).bind fun x12 =>
          some (.inl ((w64 (s2.1 + 1)), x12, x11.2.c.Inputs, x11.2.full, x11.2.c.Gates))
        else
          some (.inr (s2.2.1, s2.2.2.1, s2.2.2.2.1, s2.2.2.2.2))
      ) n (0, ([] : List Int), x7.2.2.c.Inputs, x7.2.2.full, x7.2.2.c.Gates)).bind fun (rl2 : (List Int) × Int × Bool × (List D.Gate)) =>
      some (.inl ((w64 (s1.1 - 1)), rl2.1, x8, rl2.2.1, rl2.2.2.1, rl2.2.2.2))
    else
      some (.inr (s1.2.1, s1.2.2.1, s1.2.2.2.1, s1.2.2.2.2.1, s1.2.2.2.2.2))
  ) n ((w64 ((len p1) - 1)), x2, x1, p0.c.Inputs, p0.full, p0.c.Gates)).bind fun (rl1 : (List Int) × (List Int) × Int × Bool × (List D.Gate)) =>
  some (rl1.2.1, rl1.1, (D.l04Net.mk (D.Circuit.mk rl1.2.2.1 rl1.2.2.2.2) rl1.2.2.2.1))

def spec_l04Net_l04Shift (n : Nat) (p0 : D.l04Net) (p1 : Int) (p2 : List Int) (p3 : List Int) : Option ((List Int) × D.l04Net) :=
  if (p1 == 13) then
    (get? p2 (w64 ((len p2) - 1))).bind fun x1 =>
    (iterN (fun (s1 : Int × Bool × (List Int) × Int × Int × Bool × (List D.Gate)) =>
      if (decide (s1.2.2.2.1 < (len p2))) then
        (shl? 1 s1.2.2.2.1).bind fun x2 =>
        if (decide (x2 ≥ (len p2))) then
          (get? p3 s1.2.2.2.1).bind fun x3 =>
          (spec_l04Net_l04Or n (D.l04Net.mk (D.Circuit.mk s1.2.2.2.2.1 s1.2.2.2.2.2.2) s1.2.2.2.2.2.1) s1.1 x3).bind fun x4 =>
          some (.inl (x4.1, true, s1.2.2.1, (w64 (s1.2.2.2.1 + 1)), x4.2.c.Inputs, x4.2.full, x4.2.c.Gates))
        else
          (iterN (fun (s2 : Int × (List Int) × Int × Bool × (List D.Gate)) =>
            if (decide (s2.1 < (len p2))) then
              (spec_l01In (cond (p1 == 11) (w64 (s2.1 - x2)) (w64 (s2.1 + x2))) 0 (w64 ((len p2) - 1))).bind fun x5 =>
              if x5 then
                (get? s1.2.2.1 (cond (p1 == 11) (w64 (s2.1 - x2)) (w64 (s2.1 + x2)))).bind fun x6 =>
                (get? p3 s1.2.2.2.1).bind fun x7 =>
                (get? s1.2.2.1 s2.1).bind fun x8 =>
                (spec_l04Net_l04If n (D.l04Net.mk (D.Circuit.mk s2.2.2.1 s2.2.2.2.2) s2.2.2.2.1) x7 x6 x8).bind fun x9 =>
                (app? s2.2.1 ([x9.1] : List Int)).bind fun x10 =>
                some (.inl ((w64 (s2.1 + 1)), x10, x9.2.c.Inputs, x9.2.full, x9.2.c.Gates))
              else
                (get? p3 s1.2.2.2.1).bind fun x11 =>
                (get? s1.2.2.1 s2.1).bind fun x12 =>
                (spec_l04Net_l04If n (D.l04Net.mk (D.Circuit.mk s2.2.2.1 s2.2.2.2.2) s2.2.2.2.1) x11 x1 x12).bind fun x13 =>
                (app? s2.2.1 ([x13.1] : List Int)).bind fun x14 =>
                some (.inl ((w64 (s2.1 + 1)), x14, x13.2.c.Inputs, x13.2.full, x13.2.c.Gates))
            else
              some (.inr (s2.2.1, s2.2.2.1, s2.2.2.2.1, s2.2.2.2.2))
          ) n (0, ([] : List Int), s1.2.2.2.2.1, s1.2.2.2.2.2.1, s1.2.2.2.2.2.2)).bind fun (rl2 : (List Int) × Int × Bool × (List D.Gate)) =>
          some (.inl (s1.1, s1.2.1, rl2.1, (w64 (s1.2.2.2.1 + 1)), rl2.2.1, rl2.2.2.1, rl2.2.2.2))
      else
        some (.inr (s1.1, s1.2.1, s1.2.2.1, s1.2.2.2.2.1, s1.2.2.2.2.2.1, s1.2.2.2.2.2.2))
    ) n ((-1), false, p2, 0, p0.c.Inputs, p0.full, p0.c.Gates)).bind fun (rl1 : Int × Bool × (List Int) × Int × Bool × (List D.Gate)) =>
    if (!rl1.2.1) then
      some (rl1.2.2.1, (D.l04Net.mk (D.Circuit.mk rl1.2.2.2.1 rl1.2.2.2.2.2) rl1.2.2.2.2.1))
    else
      (iterN (fun (s3 : Int × (List Int) × Int × Bool × (List D.Gate)) =>
        if (decide (s3.1 < (len p2))) then
          (get? rl1.2.2.1 s3.1).bind fun x15 =>
          (spec_l04Net_l04If n (D.l04Net.mk (D.Circuit.mk s3.2.2.1 s3.2.2.2.2) s3.2.2.2.1) rl1.1 x1 x15).bind fun x16 =>
          (app? s3.2.1 ([x16.1] : List Int)).bind fun x17 =>
          some (.inl ((w64 (s3.1 + 1)), x17, x16.2.c.Inputs, x16.2.full, x16.2.c.Gates))
        else
          some (.inr (s3.2.1, s3.2.2.1, s3.2.2.2.1, s3.2.2.2.2))
      ) n (0, ([] : List Int), rl1.2.2.2.1, rl1.2.2.2.2.1, rl1.2.2.2.2.2)).bind fun (rl3 : (List Int) × Int × Bool × (List D.Gate)) =>
      some (rl3.1, (D.l04Net.mk (D.Circuit.mk rl3.2.1 rl3.2.2.2) rl3.2.2.1))
  else
    (iterN (fun (s4 : Int × Bool × (List Int) × Int × Int × Bool × (List D.Gate)) =>
      if (decide (s4.2.2.2.1 < (len p2))) then
        (shl? 1 s4.2.2.2.1).bind fun x18 =>
        if (decide (x18 ≥ (len p2))) then
          (get? p3 s4.2.2.2.1).bind fun x19 =>
          (spec_l04Net_l04Or n (D.l04Net.mk (D.Circuit.mk s4.2.2.2.2.1 s4.2.2.2.2.2.2) s4.2.2.2.2.2.1) s4.1 x19).bind fun x20 =>
          some (.inl (x20.1, true, s4.2.2.1, (w64 (s4.2.2.2.1 + 1)), x20.2.c.Inputs, x20.2.full, x20.2.c.Gates))
        else
          (iterN (fun (s5 : Int × (List Int) × Int × Bool × (List D.Gate)) =>
            if (decide (s5.1 < (len p2))) then
              (spec_l01In (cond (p1 == 11) (w64 (s5.1 - x18)) (w64 (s5.1 + x18))) 0 (w64 ((len p2) - 1))).bind fun x21 =>
              if x21 then
                (get? s4.2.2.1 (cond (p1 == 11) (w64 (s5.1 - x18)) (w64 (s5.1 + x18)))).bind fun x22 =>
                (get? p3 s4.2.2.2.1).bind fun x23 =>
                (get? s4.2.2.1 s5.1).bind fun x24 =>
                (spec_l04Net_l04If n (D.l04Net.mk (D.Circuit.mk s5.2.2.1 s5.2.2.2.2) s5.2.2.2.1) x23 x22 x24).bind fun x25 =>
                (app? s5.2.1 ([x25.1] : List Int)).bind fun x26 =>
                some (.inl ((w64 (s5.1 + 1)), x26, x25.2.c.Inputs, x25.2.full, x25.2.c.Gates))
              else
                (get? p3 s4.2.2.2.1).bind fun x27 =>
                (get? s4.2.2.1 s5.1).bind fun x28 =>
                (spec_l04Net_l04If n (D.l04Net.mk (D.Circuit.mk s5.2.2.1 s5.2.2.2.2) s5.2.2.2.1) x27 (-1) x28).bind fun x29 =>
                (app? s5.2.1 ([x29.1] : List Int)).bind fun x30 =>
                some (.inl ((w64 (s5.1 + 1)), x30, x29.2.c.Inputs, x29.2.full, x29.2.c.Gates))
            else
              some (.inr (s5.2.1, s5.2.2.1, s5.2.2.2.1, s5.2.2.2.2))
          ) n (0, ([] : List Int), s4.2.2.2.2.1, s4.2.2.2.2.2.1, s4.2.2.2.2.2.2)).bind fun (rl5 : (List Int) × Int × Bool × (List D.Gate)) =>
          some (.inl (s4.1, s4.2.1, rl5.1, (w64 (s4.2.2.2.1 + 1)), rl5.2.1, rl5.2.2.1, rl5.2.2.2))
      else
        some (.inr (s4.1, s4.2.1, s4.2.2.1, s4.2.2.2.2.1, s4.2.2.2.2.2.1, s4.2.2.2.2.2.2))
    ) n ((-1), false, p2, 0, p0.c.Inputs, p0.full, p0.c.Gates)).bind fun (rl4 : Int × Bool × (List Int) × Int × Bool × (List D.Gate)) =>
    if (!rl4.2.1) then
      some (rl4.2.2.1, (D.l04Net.mk (D.Circuit.mk rl4.2.2.2.1 rl4.2.2.2.2.2) rl4.2.2.2.2.1))
    else
      (iterN (fun (s6 : Int × (List Int) × Int × Bool × (List D.Gate)) =>
        if (decide (s6.1 < (len p2))) then
          (get? rl4.2.2.1 s6.1).bind fun x31 =>
          (spec_l04Net_l04If n (D.l04Net.mk (D.Circuit.mk s6.2.2.1 s6.2.2.2.2) s6.2.2.2.1) rl4.1 (-1) x31).bind fun x32 =>
          (app? s6.2.1 ([x32.1] : List Int)).bind fun x33 =>
          some (.inl ((w64 (s6.1 + 1)), x33, x32.2.c.Inputs, x32.2.full, x32.2.c.Gates))
        else
          some (.inr (s6.2.1, s6.2.2.1, s6.2.2.2.1, s6.2.2.2.2))
      ) n (0, ([] : List Int), rl4.2.2.2.1, rl4.2.2.2.2.1, rl4.2.2.2.2.2)).bind fun (rl6 : (List Int) × Int × Bool × (List D.Gate)) =>
      some (rl6.1, (D.l04Net.mk (D.Circuit.mk rl6.2.1 rl6.2.2.2) rl6.2.2.1))

def spec_l04Net_l04Less (n : Nat) (p0 : D.l04Net) (p1 : List Int) (p2 : List Int) : Option (Int × D.l04Net) :=
  (spec_l04Not n p2).bind fun x1 =>
  (spec_l04Net_l04Add n p0 p1 x1 1).bind fun x2 =>
  some ((w64 (0 - x2.2.1)), x2.2.2)

def spec_l04Flip (p0 : List Int) : Option (List Int) :=
  (app? ([] : List Int) p0).bind fun x1 =>
  (get? x1 (w64 ((len x1) - 1))).bind fun x2 =>
  (set? x1 (w64 ((len x1) - 1)) (w64 (0 - x2))).bind fun x3 =>
  some x3

def spec_l04Net_l04Op (n : Nat) (p0 : D.l04Net) (p1 : Int) (p2 : List Int) (p3 : List Int) : Option ((List Int) × D.l04Net) :=
  if (p1 == 3) then
    (spec_l04Net_l04Add n p0 p2 p3 (-1)).bind fun x1 =>
    some (x1.1, x1.2.2)
  else
    if (p1 == 4) then
      (spec_l04Not n p3).bind fun x2 =>
      (spec_l04Net_l04Add n p0 p2 x2 1).bind fun x3 =>
      some (x3.1, x3.2.2)
    else
      if (p1 == 5) then
        (spec_l04Net_l04Mul n p0 p2 p3).bind fun x4 =>
        some (x4.1, x4.2)
      else
        if (p1 == 6) then
          (spec_l04Net_l04Div n p0 p2 p3).bind fun x5 =>
          some (x5.1, x5.2.2)
        else
          if (p1 == 7) then
            (spec_l04Net_l04Div n p0 p2 p3).bind fun x6 =>
            some (x6.2.1, x6.2.2)
          else
            if (p1 == 8) then
              if (p1 == 8) then
                (iterN (fun (s1 : Int × (List Int) × Int × Bool × (List D.Gate)) =>
                  if (decide (s1.1 < (len p2))) then
                    if (p1 == 8) then
                      (get? p2 s1.1).bind fun x7 =>
                      (get? p3 s1.1).bind fun x8 =>
                      (spec_l04Net_l04And n (D.l04Net.mk (D.Circuit.mk s1.2.2.1 s1.2.2.2.2) s1.2.2.2.1) x7 x8).bind fun x9 =>
                      (app? s1.2.1 ([x9.1] : List Int)).bind fun x10 =>
                      some (.inl ((w64 (s1.1 + 1)), x10, x9.2.c.Inputs, x9.2.full, x9.2.c.Gates))
                    else
                      if (p1 == 9) then
                        (get? p2 s1.1).bind fun x11 =>
                        (get? p3 s1.1).bind fun x12 =>
                        (spec_l04Net_l04Or n (D.l04Net.mk (D.Circuit.mk s1.2.2.1 s1.2.2.2.2) s1.2.2.2.1) x11 x12).bind fun x13 =>
                        (app? s1.2.1 ([x13.1] : List Int)).bind fun x14 =>
                        some (.inl ((w64 (s1.1 + 1)), x14, x13.2.c.Inputs, x13.2.full, x13.2.c.Gates))
                      else
                        (get? p2 s1.1).bind fun x15 =>
                        (get? p3 s1.1).bind fun x16 =>
                        (spec_l04Net_l04Xor n (D.l04Net.mk (D.Circuit.mk s1.2.2.1 s1.2.2.2.2) s1.2.2.2.1) x15 x16).bind fun x17 =>
                        (app? s1.2.1 ([x17.1] : List Int)).bind fun x18 =>
                        some (.inl ((w64 (s1.1 + 1)), x18, x17.2.c.Inputs, x17.2.full, x17.2.c.Gates))
                  else
                    some (.inr (s1.2.1, s1.2.2.1, s1.2.2.2.1, s1.2.2.2.2))
                ) n (0, ([] : List Int), p0.c.Inputs, p0.full, p0.c.Gates)).bind fun (rl1 : (List Int) × Int × Bool × (List D.Gate)) =>
                some (rl1.1, (D.l04Net.mk (D.Circuit.mk rl1.2.1 rl1.2.2.2) rl1.2.2.1))
              else
                if (p1 == 11) then
                  if (p1 == 11) then
                    (spec_l04Net_l04Shift n p0 p1 p2 p3).bind fun x19 =>
                    some (x19.1, x19.2)
                  else
                    if (p1 == 14) then
                      (iterN (fun (s2 : Int × Int × Int × Bool × (List D.Gate)) =>
                        if (decide (s2.2.1 < (len p2))) then
                          (get? p2 s2.2.1).bind fun x20 =>
                          (get? p3 s2.2.1).bind fun x21 =>
                          (spec_l04Net_l04Xor n (D.l04Net.mk (D.Circuit.mk s2.2.2.1 s2.2.2.2.2) s2.2.2.2.1) x20 x21).bind fun x22 =>
                          (spec_l04Net_l04And n x22.2 s2.1 (w64 (0 - x22.1))).bind fun x23 =>
                          some (.inl (x23.1, (w64 (s2.2.1 + 1)), x23.2.c.Inputs, x23.2.full, x23.2.c.Gates))
                        else
                          some (.inr (s2.1, s2.2.2.1, s2.2.2.2.1, s2.2.2.2.2))
                      ) n (1, 0, p0.c.Inputs, p0.full, p0.c.Gates)).bind fun (rl2 : Int × Int × Bool × (List D.Gate)) =>
                      some (([rl2.1] : List Int), (D.l04Net.mk (D.Circuit.mk rl2.2.1 rl2.2.2.2) rl2.2.2.1))
                    else
                      if (p1 == 15) then
                        (spec_l04Net_l04Less n p0 p2 p3).bind fun x24 =>
                        some (([x24.1] : List Int), x24.2)
                      else
                        if (p1 == 16) then
                          (spec_l04Flip p2).bind fun x25 =>
                          (spec_l04Flip p3).bind fun x26 =>
                          (spec_l04Net_l04Less n p0 x25 x26).bind fun x27 =>
                          some (([x27.1] : List Int), x27.2)
                        else
                          some (([] : List Int), p0)
                else
                  if ((p1 == 12) || (p1 == 13)) then
                    (spec_l04Net_l04Shift n p0 p1 p2 p3).bind fun x28 =>
                    some (x28.1, x28.2)
                  else
                    if (p1 == 14) then
                      (iterN (fun (s3 : Int × Int × Int × Bool × (List D.Gate)) =>
                        if (decide (s3.2.1 < (len p2))) then
                          (get? p2 s3.2.1).bind fun x29 =>
                          (get? p3 s3.2.1).bind fun x30 =>
                          (spec_l04Net_l04Xor n (D.l04Net.mk (D.Circuit.mk s3.2.2.1 s3.2.2.2.2) s3.2.2.2.1) x29 x30).bind fun x31 =>
                          (spec_l04Net_l04And n x31.2 s3.1 (w64 (0 - x31.1))).bind fun x32 =>
                          some (.inl (x32.1, (w64 (s3.2.1 + 1)), x32.2.c.Inputs, x32.2.full, x32.2.c.Gates))
                        else
                          some (.inr (s3.1, s3.2.2.1, s3.2.2.2.1, s3.2.2.2.2))
                      ) n (1, 0, p0.c.Inputs, p0.full, p0.c.Gates)).bind fun (rl3 : Int × Int × Bool × (List D.Gate)) =>
                      some (([rl3.1] : List Int), (D.l04Net.mk (D.Circuit.mk rl3.2.1 rl3.2.2.2) rl3.2.2.1))
                    else
                      if (p1 == 15) then
                        (spec_l04Net_l04Less n p0 p2 p3).bind fun x33 =>
                        some (([x33.1] : List Int), x33.2)
                      else
                        if (p1 == 16) then
                          (spec_l04Flip p2).bind fun x34 =>
                          (spec_l04Flip p3).bind fun x35 =>
                          (spec_l04Net_l04Less n p0 x34 x35).bind fun x36 =>
                          some (([x36.1] : List Int), x36.2)
                        else
                          some (([] : List Int), p0)
            else
              if ((p1 == 9) || (p1 == 10)) then
                (iterN (fun (s4 : Int × (List Int) × Int × Bool × (List D.Gate)) =>
                  if (decide (s4.1 < (len p2))) then
                    if (p1 == 8) then
                      (get? p2 s4.1).bind fun x37 =>
                      (get? p3 s4.1).bind fun x38 =>
                      (spec_l04Net_l04And n (D.l04Net.mk (D.Circuit.mk s4.2.2.1 s4.2.2.2.2) s4.2.2.2.1) x37 x38).bind fun x39 =>
                      (app? s4.2.1 ([x39.1] : List Int)).bind fun x40 =>
                      some (.inl ((w64 (s4.1 + 1)), x40, x39.2.c.Inputs, x39.2.full, x39.2.c.Gates))
                    else
                      if (p1 == 9) then
                        (get? p2 s4.1).bind fun x41 =>
                        (get? p3 s4.1).bind fun x42 =>
                        (spec_l04Net_l04Or n (D.l04Net.mk (D.Circuit.mk s4.2.2.1 s4.2.2.2.2) s4.2.2.2.1) x41 x42).bind fun x43 =>
                        (app? s4.2.1 ([x43.1] : List Int)).bind fun x44 =>
                        some (.inl ((w64 (s4.1 + 1)), x44, x43.2.c.Inputs, x43.2.full, x43.2.c.Gates))
                      else
                        (get? p2 s4.1).bind fun x45 =>
                        (get? p3 s4.1).bind fun x46 =>
                        (spec_l04Net_l04Xor n (D.l04Net.mk (D.Circuit.mk s4.2.2.1 s4.2.2.2.2) s4.2.2.2.1) x45 x46).bind fun x47 =>
                        (app? s4.2.1 ([x47.1] : List Int)).bind fun x48 =>
                        some (.inl ((w64 (s4.1 + 1)), x48, x47.2.c.Inputs, x47.2.full, x47.2.c.Gates))
                  else
                    some (.inr (s4.2.1, s4.2.2.1, s4.2.2.2.1, s4.2.2.2.2))
                ) n (0, ([] : List Int), p0.c.Inputs, p0.full, p0.c.Gates)).bind fun (rl4 : (List Int) × Int × Bool × (List D.Gate)) =>
                some (rl4.1, (D.l04Net.mk (D.Circuit.mk rl4.2.1 rl4.2.2.2) rl4.2.2.1))
              else
                if (p1 == 11) then
                  if (p1 == 11) then
                    (spec_l04Net_l04Shift n p0 p1 p2 p3).bind fun x49 =>
                    some (x49.1, x49.2)
                  else
                    if (p1 == 14) then
                      (iterN (fun (s5 : Int × Int × Int × Bool × (List D.Gate)) =>
                        if (decide (s5.2.1 < (len p2))) then
                          (get? p2 s5.2.1).bind fun x50 =>
                          (get? p3 s5.2.1).bind fun x51 =>
                          (spec_l04Net_l04Xor n (D.l04Net.mk (D.Circuit.mk s5.2.2.1 s5.2.2.2.2) s5.2.2.2.1) x50 x51).bind fun x52 =>
                          (spec_l04Net_l04And n x52.2 s5.1 (w64 (0 - x52.1))).bind fun x53 =>
                          some (.inl (x53.1, (w64 (s5.2.1 + 1)), x53.2.c.Inputs, x53.2.full, x53.2.c.Gates))
                        else
                          some (.inr (s5.1, s5.2.2.1, s5.2.2.2.1, s5.2.2.2.2))
                      ) n (1, 0, p0.c.Inputs, p0.full, p0.c.Gates)).bind fun (rl5 : Int × Int × Bool × (List D.Gate)) =>
                      some (([rl5.1] : List Int), (D.l04Net.mk (D.Circuit.mk rl5.2.1 rl5.2.2.2) rl5.2.2.1))
                    else
                      if (p1 == 15) then
                        (spec_l04Net_l04Less n p0 p2 p3).bind fun x54 =>
                        some (([x54.1] : List Int), x54.2)
                      else
                        if (p1 == 16) then
                          (spec_l04Flip p2).bind fun x55 =>
                          (spec_l04Flip p3).bind fun x56 =>
                          (spec_l04Net_l04Less n p0 x55 x56).bind fun x57 =>
                          some (([x57.1] : List Int), x57.2)
                        else
                          some (([] : List Int), p0)
                else
                  if ((p1 == 12) || (p1 == 13)) then
                    (spec_l04Net_l04Shift n p0 p1 p2 p3).bind fun x58 =>
                    some (x58.1, x58.2)
                  else
                    if (p1 == 14) then
                      (iterN (fun (s6 : Int × Int × Int × Bool × (List D.Gate)) =>
                        if (decide (s6.2.1 < (len p2))) then
                          (get? p2 s6.2.1).bind fun x59 =>
                          (get? p3 s6.2.1).bind fun x60 =>
                          (spec_l04Net_l04Xor n (D.l04Net.mk (D.Circuit.mk s6.2.2.1 s6.2.2.2.2) s6.2.2.2.1) x59 x60).bind fun x61 =>
                          (spec_l04Net_l04And n x61.2 s6.1 (w64 (0 - x61.1))).bind fun x62 =>
                          some (.inl (x62.1, (w64 (s6.2.1 + 1)), x62.2.c.Inputs, x62.2.full, x62.2.c.Gates))
                        else
                          some (.inr (s6.1, s6.2.2.1, s6.2.2.2.1, s6.2.2.2.2))
                      ) n (1, 0, p0.c.Inputs, p0.full, p0.c.Gates)).bind fun (rl6 : Int × Int × Bool × (List D.Gate)) =>
                      some (([rl6.1] : List Int), (D.l04Net.mk (D.Circuit.mk rl6.2.1 rl6.2.2.2) rl6.2.2.1))
                    else
                      if (p1 == 15) then
                        (spec_l04Net_l04Less n p0 p2 p3).bind fun x63 =>
                        some (([x63.1] : List Int), x63.2)
                      else
                        if (p1 == 16) then
                          (spec_l04Flip p2).bind fun x64 =>
                          (spec_l04Flip p3).bind fun x65 =>
                          (spec_l04Net_l04Less n p0 x64 x65).bind fun x66 =>
                          some (([x66.1] : List Int), x66.2)
                        else
                          some (([] : List Int), p0)

def spec_OpLits (n : Nat) (p0 : D.Circuit) (p1 : Int) (p2 : List Int) (p3 : List Int) : Option (D.Circuit × (List Int) × Bool) :=
  (spec_CircuitOk n p0).bind fun x1 =>
  (if ((!x1) || ((len p2) != (len p3))) then some default else (spec_l01In (len p2) 1 15)).bind fun x2 =>
  (if (((!x1) || ((len p2) != (len p3))) || (!x2)) then some default else (spec_l04Lits n p0 p2)).bind fun x3 =>
  (if ((((!x1) || ((len p2) != (len p3))) || (!x2)) || (!x3)) then some default else (spec_l04Lits n p0 p3)).bind fun x4 =>
  (if (((((!x1) || ((len p2) != (len p3))) || (!x2)) || (!x3)) || (!x4)) then some default else (spec_l01In p1 3 16)).bind fun x5 =>
  if ((((((!x1) || ((len p2) != (len p3))) || (!x2)) || (!x3)) || (!x4)) || (!x5)) then
    some ((D.Circuit.mk 0 ([] : List D.Gate)), ([] : List Int), false)
  else
    (spec_l04New p0).bind fun x6 =>
    (spec_l04Net_l04Op n x6 p1 p2 p3).bind fun x7 =>
    if x7.2.full then
      some ((D.Circuit.mk 0 ([] : List D.Gate)), ([] : List Int), false)
    else
      (app? ([] : List Int) x7.1).bind fun x8 =>
      some (x7.2.c, x8, true)

def impl_isLiteral (p0 : Int) (p1 : Int) : Option Bool :=
  some (((p0 != 0) && (decide (p0 ≥ (w64 (0 - p1))))) && (decide (p0 ≤ p1)))

def impl_varOf (p0 : Int) : Option Int :=
  if (decide (p0 < 0)) then
    some (w64 (0 - p0))
  else
    some p0

def impl_CircuitOk (n : Nat) (p0 : D.Circuit) : Option Bool :=
  if (((decide (p0.Inputs < 0)) || (decide (p0.Inputs > 30))) || (decide ((len p0.Gates) > 360))) then
    some false
  else
    (iterN (fun (s1 : Int × (List (D.Gate × Bool))) =>
      if (decide (s1.1 < (len p0.Gates))) then
        (get? p0.Gates s1.1).bind fun x1 =>
        (impl_isLiteral x1.A (w64 ((w64 (1 + p0.Inputs)) + s1.1))).bind fun x2 =>
        (if (!x2) then some default else (impl_isLiteral x1.B (w64 ((w64 (1 + p0.Inputs)) + s1.1)))).bind fun x3 =>
        (if ((!x2) || (!x3)) then some default else (mget? fitK_Gate (false : Bool) s1.2 x1)).bind fun x4 =>
        if (((!x2) || (!x3)) || x4) then
          some (.inr (.inr false))
        else
          (impl_varOf x1.A).bind fun x5 =>
          (if (decide (x5 < 2)) then some default else (impl_varOf x1.A)).bind fun x6 =>
          (if (decide (x5 < 2)) then some default else (impl_varOf x1.B)).bind fun x7 =>
          if ((decide (x5 < 2)) || (decide (x6 ≥ x7))) then
            some (.inr (.inr false))
          else
            (mput? fitK_Gate s1.2 x1 true).bind fun x8 =>
            some (.inl ((w64 (s1.1 + 1)), x8))
      else
        some (.inr (.inl ()))
    ) n (0, [])).bind fun (rl1 : (Unit) ⊕ Bool) =>
    match rl1 with
    | .inl s1r =>
      some true
    | .inr v => some v

def impl_isTwoWords (p0 : Int) : Option Bool :=
  some ((decide (p0 ≥ 3)) && (decide (p0 ≤ 16)))

def impl_linesOf (p0 : D.Circuit) : Option Int :=
  some (w64 ((w64 (1 + p0.Inputs)) + (len p0.Gates)))

def impl_literalsOk (n : Nat) (p0 : List Int) (p1 : Int) : Option Bool :=
  (iterN (fun (s1 : Int) =>
    if (decide (s1 < (len p0))) then
      (get? p0 s1).bind fun x1 =>
      (impl_isLiteral x1 p1).bind fun x2 =>
      if (!x2) then
        some (.inr (.inr false))
      else
        some (.inl ((w64 (s1 + 1))))
    else
      some (.inr (.inl ()))
  ) n (0)).bind fun (rl1 : (Unit) ⊕ Bool) =>
  match rl1 with
  | .inl s1r =>
    some true
  | .inr v => some v

def slices_Clone___impl_Gate_impl_Gate_ (p0 : List D.Gate) : Option (List D.Gate) :=
  (app? ([] : List D.Gate) p0).bind fun x1 =>
  some x1

def impl_newBuilder (n : Nat) (p0 : D.Circuit) : Option D.builder :=
  (slices_Clone___impl_Gate_impl_Gate_ p0.Gates).bind fun x1 =>
  (iterN (fun (s1 : Int × (List (D.Gate × Int))) =>
    if (decide (s1.1 < (len p0.Gates))) then
      (get? p0.Gates s1.1).bind fun x2 =>
      (mputE? fitK_Gate fitZ s1.2 x2 (w64 ((w64 (2 + p0.Inputs)) + s1.1))).bind fun x3 =>
      some (.inl ((w64 (s1.1 + 1)), x3))
    else
      some (.inr (s1.2))
  ) n (0, [])).bind fun (rl1 : (List (D.Gate × Int))) =>
  some (D.builder.mk (D.Circuit.mk p0.Inputs x1) rl1 false)

def impl_builder_and (p0 : D.builder) (p1 : Int) (p2 : Int) : Option (Int × D.builder) :=
  if (((p1 == (-1)) || (p2 == (-1))) || (p1 == (w64 (0 - p2)))) then
    some ((-1), p0)
  else
    if (p1 == 1) then
      some (p2, p0)
    else
      if ((p2 == 1) || (p1 == p2)) then
        some (p1, p0)
      else
        (impl_varOf p1).bind fun x1 =>
        (impl_varOf p2).bind fun x2 =>
        if (decide (x1 > x2)) then
          (mget2? fitK_Gate (0 : Int) p0.line (D.Gate.mk p2 p1)).bind fun x3 =>
          if x3.2 then
            some (x3.1, p0)
          else
            if (decide ((len p0.c.Gates) ≥ 360)) then
              some ((-1), (D.builder.mk p0.c p0.line true))
            else
              (app? p0.c.Gates ([(D.Gate.mk p2 p1)] : List D.Gate)).bind fun x4 =>
              (impl_linesOf (D.Circuit.mk p0.c.Inputs x4)).bind fun x5 =>
              (mputE? fitK_Gate fitZ p0.line (D.Gate.mk p2 p1) x5).bind fun x6 =>
              some (x5, (D.builder.mk (D.Circuit.mk p0.c.Inputs x4) x6 p0.full))
        else
          (mget2? fitK_Gate (0 : Int) p0.line (D.Gate.mk p1 p2)).bind fun x7 =>
          if x7.2 then
            some (x7.1, p0)
          else
            if (decide ((len p0.c.Gates) ≥ 360)) then
              some ((-1), (D.builder.mk p0.c p0.line true))
            else
              (app? p0.c.Gates ([(D.Gate.mk p1 p2)] : List D.Gate)).bind fun x8 =>
              (impl_linesOf (D.Circuit.mk p0.c.Inputs x8)).bind fun x9 =>
              (mputE? fitK_Gate fitZ p0.line (D.Gate.mk p1 p2) x9).bind fun x10 =>
              some (x9, (D.builder.mk (D.Circuit.mk p0.c.Inputs x8) x10 p0.full))

def impl_builder_or (p0 : D.builder) (p1 : Int) (p2 : Int) : Option (Int × D.builder) :=
  (impl_builder_and p0 (w64 (0 - p1)) (w64 (0 - p2))).bind fun x1 =>
  some ((w64 (0 - x1.1)), x1.2)

def impl_builder_xor (p0 : D.builder) (p1 : Int) (p2 : Int) : Option (Int × D.builder) :=
  (impl_builder_and p0 p1 (w64 (0 - p2))).bind fun x1 =>
  (impl_builder_and x1.2 (w64 (0 - p1)) p2).bind fun x2 =>
  (impl_builder_or x2.2 x1.1 x2.1).bind fun x3 =>
  some (x3.1, x3.2)

def impl_builder_add (n : Nat) (p0 : D.builder) (p1 : List Int) (p2 : List Int) (p3 : Int) : Option ((List Int) × Int × D.builder) :=
  (mk? (len p1) (0 : Int)).bind fun x1 =>
  (iterN (fun (s1 : Int × Int × (List Int) × Int × Bool × (List D.Gate) × (List (D.Gate × Int))) =>
    if (decide (s1.2.1 < (len p1))) then
      (get? p1 s1.2.1).bind fun x2 =>
      (get? p2 s1.2.1).bind fun x3 =>
      (impl_builder_xor (D.builder.mk (D.Circuit.mk s1.2.2.2.1 s1.2.2.2.2.2.1) s1.2.2.2.2.2.2 s1.2.2.2.2.1) x2 x3).bind fun x4 =>
      (impl_builder_xor x4.2 x4.1 s1.1).bind fun x5 =>
      (set? s1.2.2.1 s1.2.1 x5.1).bind fun x6 =>
      (get? p1 s1.2.1).bind fun x7 =>
      (get? p2 s1.2.1).bind fun x8 =>
      (impl_builder_and x5.2 x7 x8).bind fun x9 =>
      (impl_builder_and x9.2 x4.1 s1.1).bind fun x10 =>
      (impl_builder_or x10.2 x9.1 x10.1).bind fun x11 =>
      some (.inl (x11.1, (w64 (s1.2.1 + 1)), x6, x11.2.c.Inputs, x11.2.full, x11.2.c.Gates, x11.2.line))
    else
      some (.inr (s1.1, s1.2.2.1, s1.2.2.2.1, s1.2.2.2.2.1, s1.2.2.2.2.2.1, s1.2.2.2.2.2.2))
  ) n (p3, 0, x1, p0.c.Inputs, p0.full, p0.c.Gates, p0.line)).bind fun (rl1 : Int × (List Int) × Int × Bool × (List D.Gate) × (List (D.Gate × Int))) =>
  some (rl1.2.1, rl1.1, (D.builder.mk (D.Circuit.mk rl1.2.2.1 rl1.2.2.2.2.1) rl1.2.2.2.2.2 rl1.2.2.2.1))

def impl_opposites (n : Nat) (p0 : List Int) : Option (List Int) :=
  (mk? (len p0) (0 : Int)).bind fun x1 =>
  (iterN (fun (s1 : Int × (List Int)) =>
    if (decide (s1.1 < (len p0))) then
      (get? p0 s1.1).bind fun x2 =>
      (set? s1.2 s1.1 (w64 (0 - x2))).bind fun x3 =>
      some (.inl ((w64 (s1.1 + 1)), x3))
    else
      some (.inr (s1.2))
  ) n (0, x1)).bind fun (rl1 : (List Int)) =>
  some rl1

def impl_numberOf (n : Nat) (p0 : Int) (p1 : Int) : Option (List Int) :=
  (mk? p0 (0 : Int)).bind fun x1 =>
  (iterN (fun (s1 : Int × (List Int)) =>
    if (decide (s1.1 < (len x1))) then
      (set? s1.2 s1.1 (-1)).bind fun x2 =>
      (shr? p1 (IntKind.u64.wrap s1.1)).bind fun x3 =>
      if ((band x3 1) == 1) then
        (set? x2 s1.1 1).bind fun x4 =>
        some (.inl ((w64 (s1.1 + 1)), x4))
      else
        some (.inl ((w64 (s1.1 + 1)), x2))
    else
      some (.inr (s1.2))
  ) n (0, x1)).bind fun (rl1 : (List Int)) =>
  some rl1

def impl_builder_multiply (n : Nat) (p0 : D.builder) (p1 : List Int) (p2 : List Int) : Option ((List Int) × D.builder) :=
  (impl_numberOf n (len p1) 0).bind fun x1 =>
  (iterN (fun (s1 : Int × (List Int) × Int × Bool × (List D.Gate) × (List (D.Gate × Int))) =>
    if (decide (s1.1 < (len p2))) then
      (mk? (w64 ((len p1) - s1.1)) (0 : Int)).bind fun x2 =>
      (iterN (fun (s2 : Int × (List Int) × Int × Bool × (List D.Gate) × (List (D.Gate × Int))) =>
        if (decide (s2.1 < (len x2))) then
          (get? p2 s1.1).bind fun x3 =>
          (get? p1 s2.1).bind fun x4 =>
          (impl_builder_and (D.builder.mk (D.Circuit.mk s2.2.2.1 s2.2.2.2.2.1) s2.2.2.2.2.2 s2.2.2.2.1) x3 x4).bind fun x5 =>
          (set? s2.2.1 s2.1 x5.1).bind fun x6 =>
          some (.inl ((w64 (s2.1 + 1)), x6, x5.2.c.Inputs, x5.2.full, x5.2.c.Gates, x5.2.line))
        else
          some (.inr (s2.2.1, s2.2.2.1, s2.2.2.2.1, s2.2.2.2.2.1, s2.2.2.2.2.2))
      ) n (0, x2, s1.2.2.1, s1.2.2.2.1, s1.2.2.2.2.1, s1.2.2.2.2.2)).bind fun (rl2 : (List Int) × Int × Bool × (List D.Gate) × (List (D.Gate × Int))) =>
      (cut? s1.2.1 s1.1 (len x1)).bind fun x7 =>
      (impl_builder_add n (D.builder.mk (D.Circuit.mk rl2.2.1 rl2.2.2.2.1) rl2.2.2.2.2 rl2.2.2.1) (vcut s1.2.1 s1.1 (List.length x7)) rl2.1 (-1)).bind fun x8 =>
      (cut? s1.2.1 s1.1 (len x1)).bind fun x9 =>
      some (.inl ((w64 (s1.1 + 1)), (vcopy s1.2.1 s1.1 (List.length x9) x8.1), x8.2.2.c.Inputs, x8.2.2.full, x8.2.2.c.Gates, x8.2.2.line))
    else
      some (.inr (s1.2.1, s1.2.2.1, s1.2.2.2.1, s1.2.2.2.2.1, s1.2.2.2.2.2))
  ) n (0, x1, p0.c.Inputs, p0.full, p0.c.Gates, p0.line)).bind fun (rl1 : (List Int) × Int × Bool × (List D.Gate) × (List (D.Gate × Int))) =>
  some (rl1.1, (D.builder.mk (D.Circuit.mk rl1.2.1 rl1.2.2.2.1) rl1.2.2.2.2 rl1.2.2.1))

def impl_builder_choose (p0 : D.builder) (p1 : Int) (p2 : Int) (p3 : Int) : Option (Int × D.builder) :=
  (impl_builder_and p0 p1 p2).bind fun x1 =>
  (impl_builder_and x1.2 (w64 (0 - p1)) p3).bind fun x2 =>
  (impl_builder_or x2.2 x1.1 x2.1).bind fun x3 =>
  some (x3.1, x3.2)

def impl_builder_divide (n : Nat) (p0 : D.builder) (p1 : List Int) (p2 : List Int) : Option ((List Int) × (List Int) × D.builder) :=
  (mk? (len p1) (0 : Int)).bind fun x1 =>
  (impl_numberOf n (len p1) 0).bind fun x2 =>
  (impl_opposites n p2).bind fun x3 =>
  (app? x3 ([1] : List Int)).bind fun x4 =>
  (iterN (fun (s1 : Int × (List Int) × (List Int) × Int × Bool × (List D.Gate) × (List (D.Gate × Int))) =>
    if (decide (s1.1 ≥ 0)) then
      (get? p1 s1.1).bind fun x5 =>
      (app? ([x5] : List Int) s1.2.1).bind fun x6 =>
      (impl_builder_add n (D.builder.mk (D.Circuit.mk s1.2.2.2.1 s1.2.2.2.2.2.1) s1.2.2.2.2.2.2 s1.2.2.2.2.1) x6 x4 1).bind fun x7 =>
      (set? s1.2.2.1 s1.1 x7.2.1).bind fun x8 =>
      (iterN (fun (s2 : Int × Int × Bool × (List D.Gate) × (List (D.Gate × Int)) × (List Int)) =>
        if (decide (s2.1 < (len x2))) then
          (get? x7.1 s2.1).bind fun x9 =>
          (get? x6 s2.1).bind fun x10 =>
          (impl_builder_choose (D.builder.mk (D.Circuit.mk s2.2.1 s2.2.2.2.1) s2.2.2.2.2.1 s2.2.2.1) x7.2.1 x9 x10).bind fun x11 =>
          (set? s2.2.2.2.2.2 s2.1 x11.1).bind fun x12 =>
          some (.inl ((w64 (s2.1 + 1)), x11.2.c.Inputs, x11.2.full, x11.2.c.Gates, x11.2.line, x12))
        else
          some (.inr (s2.2.1, s2.2.2.1, s2.2.2.2.1, s2.2.2.2.2.1, s2.2.2.2.2.2))
      ) n (0, x7.2.2.c.Inputs, x7.2.2.full, x7.2.2.c.Gates, x7.2.2.line, s1.2.1)).bind fun (rl2 : Int × Bool × (List D.Gate) × (List (D.Gate × Int)) × (List Int)) =>
      some (.inl ((w64 (s1.1 - 1)), rl2.2.2.2.2, x8, rl2.1, rl2.2.1, rl2.2.2.1, rl2.2.2.2.1))
    else
      some (.inr (s1.2.1, s1.2.2.1, s1.2.2.2.1, s1.2.2.2.2.1, s1.2.2.2.2.2.1, s1.2.2.2.2.2.2))
  ) n ((w64 ((len p1) - 1)), x2, x1, p0.c.Inputs, p0.full, p0.c.Gates, p0.line)).bind fun (rl1 : (List Int) × (List Int) × Int × Bool × (List D.Gate) × (List (D.Gate × Int))) =>
  some (rl1.2.1, rl1.1, (D.builder.mk (D.Circuit.mk rl1.2.2.1 rl1.2.2.2.2.1) rl1.2.2.2.2.2 rl1.2.2.2.1))

def slices_Clone___int_int_ (p0 : List Int) : Option (List Int) :=
  (app? ([] : List Int) p0).bind fun x1 =>
  some x1

def impl_builder_shift (n : Nat) (p0 : D.builder) (p1 : Int) (p2 : List Int) (p3 : List Int) : Option ((List Int) × D.builder) :=
  if (p1 == 13) then
    (get? p2 (w64 ((len p2) - 1))).bind fun x1 =>
    (slices_Clone___int_int_ p2).bind fun x2 =>
    (iterN (fun (s1 : Int × (List Int) × Int × Bool × (List D.Gate) × (List (D.Gate × Int))) =>
      (if (decide (s1.1 < (len p2))) then (shl? 1 (IntKind.u64.wrap s1.1)) else some default).bind fun x3 =>
      if ((decide (s1.1 < (len p2))) && (decide (x3 < (len p2)))) then
        (slices_Clone___int_int_ s1.2.1).bind fun x4 =>
        (iterN (fun (s2 : Int × (List Int) × Int × Bool × (List D.Gate) × (List (D.Gate × Int))) =>
          if (decide (s2.1 < (len x2))) then
            (shl? 1 (IntKind.u64.wrap s1.1)).bind fun x5 =>
            if (p1 == 11) then
              (shl? 1 (IntKind.u64.wrap s1.1)).bind fun x6 =>
              if ((decide ((w64 (s2.1 - x6)) ≥ 0)) && (decide ((w64 (s2.1 - x6)) < (len p2)))) then
                (get? x4 (w64 (s2.1 - x6))).bind fun x7 =>
                (get? p3 s1.1).bind fun x8 =>
                (get? x4 s2.1).bind fun x9 =>
                (impl_builder_choose (D.builder.mk (D.Circuit.mk s2.2.2.1 s2.2.2.2.2.1) s2.2.2.2.2.2 s2.2.2.2.1) x8 x7 x9).bind fun x10 =>
                (set? s2.2.1 s2.1 x10.1).bind fun x11 =>
                some (.inl ((w64 (s2.1 + 1)), x11, x10.2.c.Inputs, x10.2.full, x10.2.c.Gates, x10.2.line))
              else
                (get? p3 s1.1).bind fun x12 =>
                (get? x4 s2.1).bind fun x13 =>
                (impl_builder_choose (D.builder.mk (D.Circuit.mk s2.2.2.1 s2.2.2.2.2.1) s2.2.2.2.2.2 s2.2.2.2.1) x12 x1 x13).bind fun x14 =>
                (set? s2.2.1 s2.1 x14.1).bind fun x15 =>
                some (.inl ((w64 (s2.1 + 1)), x15, x14.2.c.Inputs, x14.2.full, x14.2.c.Gates, x14.2.line))
            else
              if ((decide ((w64 (s2.1 + x5)) ≥ 0)) && (decide ((w64 (s2.1 + x5)) < (len p2)))) then
                (get? x4 (w64 (s2.1 + x5))).bind fun x16 =>
                (get? p3 s1.1).bind fun x17 =>
                (get? x4 s2.1).bind fun x18 =>
                (impl_builder_choose (D.builder.mk (D.Circuit.mk s2.2.2.1 s2.2.2.2.2.1) s2.2.2.2.2.2 s2.2.2.2.1) x17 x16 x18).bind fun x19 =>
                (set? s2.2.1 s2.1 x19.1).bind fun x20 =>
                some (.inl ((w64 (s2.1 + 1)), x20, x19.2.c.Inputs, x19.2.full, x19.2.c.Gates, x19.2.line))
              else
                (get? p3 s1.1).bind fun x21 =>
                (get? x4 s2.1).bind fun x22 =>
                (impl_builder_choose (D.builder.mk (D.Circuit.mk s2.2.2.1 s2.2.2.2.2.1) s2.2.2.2.2.2 s2.2.2.2.1) x21 x1 x22).bind fun x23 =>
                (set? s2.2.1 s2.1 x23.1).bind fun x24 =>
                some (.inl ((w64 (s2.1 + 1)), x24, x23.2.c.Inputs, x23.2.full, x23.2.c.Gates, x23.2.line))
          else
            some (.inr (s2.2.1, s2.2.2.1, s2.2.2.2.1, s2.2.2.2.2.1, s2.2.2.2.2.2))
        ) n (0, s1.2.1, s1.2.2.1, s1.2.2.2.1, s1.2.2.2.2.1, s1.2.2.2.2.2)).bind fun (rl2 : (List Int) × Int × Bool × (List D.Gate) × (List (D.Gate × Int))) =>
        some (.inl ((w64 (s1.1 + 1)), rl2.1, rl2.2.1, rl2.2.2.1, rl2.2.2.2.1, rl2.2.2.2.2))
      else
        some (.inr (s1.1, s1.2.1, s1.2.2.1, s1.2.2.2.1, s1.2.2.2.2.1, s1.2.2.2.2.2))
    ) n (0, x2, p0.c.Inputs, p0.full, p0.c.Gates, p0.line)).bind fun (rl1 : Int × (List Int) × Int × Bool × (List D.Gate) × (List (D.Gate × Int))) =>
    if (decide (rl1.1 < (len p2))) then
      (iterN (fun (s3 : Int × Int × Int × Bool × (List D.Gate) × (List (D.Gate × Int))) =>
        if (decide (s3.1 < (len p2))) then
          (get? p3 s3.1).bind fun x25 =>
          (impl_builder_or (D.builder.mk (D.Circuit.mk s3.2.2.1 s3.2.2.2.2.1) s3.2.2.2.2.2 s3.2.2.2.1) s3.2.1 x25).bind fun x26 =>
          some (.inl ((w64 (s3.1 + 1)), x26.1, x26.2.c.Inputs, x26.2.full, x26.2.c.Gates, x26.2.line))
        else
          some (.inr (s3.2.1, s3.2.2.1, s3.2.2.2.1, s3.2.2.2.2.1, s3.2.2.2.2.2))
      ) n (rl1.1, (-1), rl1.2.2.1, rl1.2.2.2.1, rl1.2.2.2.2.1, rl1.2.2.2.2.2)).bind fun (rl3 : Int × Int × Bool × (List D.Gate) × (List (D.Gate × Int))) =>
      (iterN (fun (s4 : Int × (List Int) × Int × Bool × (List D.Gate) × (List (D.Gate × Int))) =>
        if (decide (s4.1 < (len x2))) then
          (get? s4.2.1 s4.1).bind fun x27 =>
          (impl_builder_choose (D.builder.mk (D.Circuit.mk s4.2.2.1 s4.2.2.2.2.1) s4.2.2.2.2.2 s4.2.2.2.1) rl3.1 x1 x27).bind fun x28 =>
          (set? s4.2.1 s4.1 x28.1).bind fun x29 =>
          some (.inl ((w64 (s4.1 + 1)), x29, x28.2.c.Inputs, x28.2.full, x28.2.c.Gates, x28.2.line))
        else
          some (.inr (s4.2.1, s4.2.2.1, s4.2.2.2.1, s4.2.2.2.2.1, s4.2.2.2.2.2))
      ) n (0, rl1.2.1, rl3.2.1, rl3.2.2.1, rl3.2.2.2.1, rl3.2.2.2.2)).bind fun (rl4 : (List Int) × Int × Bool × (List D.Gate) × (List (D.Gate × Int))) =>
      some (rl4.1, (D.builder.mk (D.Circuit.mk rl4.2.1 rl4.2.2.2.1) rl4.2.2.2.2 rl4.2.2.1))
    else
      some (rl1.2.1, (D.builder.mk (D.Circuit.mk rl1.2.2.1 rl1.2.2.2.2.1) rl1.2.2.2.2.2 rl1.2.2.2.1))
  else
    (slices_Clone___int_int_ p2).bind fun x30 =>
    (iterN (fun (s5 : Int × (List Int) × Int × Bool × (List D.Gate) × (List (D.Gate × Int))) =>
      (if (decide (s5.1 < (len p2))) then (shl? 1 (IntKind.u64.wrap s5.1)) else some default).bind fun x31 =>
      if ((decide (s5.1 < (len p2))) && (decide (x31 < (len p2)))) then
        (slices_Clone___int_int_ s5.2.1).bind fun x32 =>
        (iterN (fun (s6 : Int × (List Int) × Int × Bool × (List D.Gate) × (List (D.Gate × Int))) =>
          if (decide (s6.1 < (len x30))) then
            (shl? 1 (IntKind.u64.wrap s5.1)).bind fun x33 =>
            if (p1 == 11) then
              (shl? 1 (IntKind.u64.wrap s5.1)).bind fun x34 =>
              if ((decide ((w64 (s6.1 - x34)) ≥ 0)) && (decide ((w64 (s6.1 - x34)) < (len p2)))) then
                (get? x32 (w64 (s6.1 - x34))).bind fun x35 =>
                (get? p3 s5.1).bind fun x36 =>
                (get? x32 s6.1).bind fun x37 =>
                (impl_builder_choose (D.builder.mk (D.Circuit.mk s6.2.2.1 s6.2.2.2.2.1) s6.2.2.2.2.2 s6.2.2.2.1) x36 x35 x37).bind fun x38 =>
                (set? s6.2.1 s6.1 x38.1).bind fun x39 =>
                some (.inl ((w64 (s6.1 + 1)), x39, x38.2.c.Inputs, x38.2.full, x38.2.c.Gates, x38.2.line))
              else
                (get? p3 s5.1).bind fun x40 =>
                (get? x32 s6.1).bind fun x41 =>
                (impl_builder_choose (D.builder.mk (D.Circuit.mk s6.2.2.1 s6.2.2.2.2.1) s6.2.2.2.2.2 s6.2.2.2.1) x40 (-1) x41).bind fun x42 =>
                (set? s6.2.1 s6.1 x42.1).bind fun x43 =>
                some (.inl ((w64 (s6.1 + 1)), x43, x42.2.c.Inputs, x42.2.full, x42.2.c.Gates, x42.2.line))
            else
              if ((decide ((w64 (s6.1 + x33)) ≥ 0)) && (decide ((w64 (s6.1 + x33)) < (len p2)))) then
                (get? x32 (w64 (s6.1 + x33))).bind fun x44 =>
                (get? p3 s5.1).bind fun x45 =>
                (get? x32 s6.1).bind fun x46 =>
                (impl_builder_choose (D.builder.mk (D.Circuit.mk s6.2.2.1 s6.2.2.2.2.1) s6.2.2.2.2.2 s6.2.2.2.1) x45 x44 x46).bind fun x47 =>
                (set? s6.2.1 s6.1 x47.1).bind fun x48 =>
                some (.inl ((w64 (s6.1 + 1)), x48, x47.2.c.Inputs, x47.2.full, x47.2.c.Gates, x47.2.line))
              else
                (get? p3 s5.1).bind fun x49 =>
                (get? x32 s6.1).bind fun x50 =>
                (impl_builder_choose (D.builder.mk (D.Circuit.mk s6.2.2.1 s6.2.2.2.2.1) s6.2.2.2.2.2 s6.2.2.2.1) x49 (-1) x50).bind fun x51 =>
                (set? s6.2.1 s6.1 x51.1).bind fun x52 =>
                some (.inl ((w64 (s6.1 + 1)), x52, x51.2.c.Inputs, x51.2.full, x51.2.c.Gates, x51.2.line))
          else
            some (.inr (s6.2.1, s6.2.2.1, s6.2.2.2.1, s6.2.2.2.2.1, s6.2.2.2.2.2))
        ) n (0, s5.2.1, s5.2.2.1, s5.2.2.2.1, s5.2.2.2.2.1, s5.2.2.2.2.2)).bind fun (rl6 : (List Int) × Int × Bool × (List D.Gate) × (List (D.Gate × Int))) =>
        some (.inl ((w64 (s5.1 + 1)), rl6.1, rl6.2.1, rl6.2.2.1, rl6.2.2.2.1, rl6.2.2.2.2))
      else
        some (.inr (s5.1, s5.2.1, s5.2.2.1, s5.2.2.2.1, s5.2.2.2.2.1, s5.2.2.2.2.2))
    ) n (0, x30, p0.c.Inputs, p0.full, p0.c.Gates, p0.line)).bind fun (rl5 : Int × (List Int) × Int × Bool × (List D.Gate) × (List (D.Gate × Int))) =>
    if (decide (rl5.1 < (len p2))) then
      (iterN (fun (s7 : Int × Int × Int × Bool × (List D.Gate) × (List (D.Gate × Int))) =>
        if (decide (s7.1 < (len p2))) then
          (get? p3 s7.1).bind fun x53 =>
          (impl_builder_or (D.builder.mk (D.Circuit.mk s7.2.2.1 s7.2.2.2.2.1) s7.2.2.2.2.2 s7.2.2.2.1) s7.2.1 x53).bind fun x54 =>
          some (.inl ((w64 (s7.1 + 1)), x54.1, x54.2.c.Inputs, x54.2.full, x54.2.c.Gates, x54.2.line))
        else
          some (.inr (s7.2.1, s7.2.2.1, s7.2.2.2.1, s7.2.2.2.2.1, s7.2.2.2.2.2))
      ) n (rl5.1, (-1), rl5.2.2.1, rl5.2.2.2.1, rl5.2.2.2.2.1, rl5.2.2.2.2.2)).bind fun (rl7 : Int × Int × Bool × (List D.Gate) × (List (D.Gate × Int))) =>
      (iterN (fun (s8 : Int × (List Int) × Int × Bool × (List D.Gate) × (List (D.Gate × Int))) =>
        if (decide (s8.1 < (len x30))) then
          (get? s8.2.1 s8.1).bind fun x55 =>
          (impl_builder_choose (D.builder.mk (D.Circuit.mk s8.2.2.1 s8.2.2.2.2.1) s8.2.2.2.2.2 s8.2.2.2.1) rl7.1 (-1) x55).bind fun x56 =>
          (set? s8.2.1 s8.1 x56.1).bind fun x57 =>
          some (.inl ((w64 (s8.1 + 1)), x57, x56.2.c.Inputs, x56.2.full, x56.2.c.Gates, x56.2.line))
        else
          some (.inr (s8.2.1, s8.2.2.1, s8.2.2.2.1, s8.2.2.2.2.1, s8.2.2.2.2.2))
      ) n (0, rl5.2.1, rl7.2.1, rl7.2.2.1, rl7.2.2.2.1, rl7.2.2.2.2)).bind fun (rl8 : (List Int) × Int × Bool × (List D.Gate) × (List (D.Gate × Int))) =>
      some (rl8.1, (D.builder.mk (D.Circuit.mk rl8.2.1 rl8.2.2.2.1) rl8.2.2.2.2 rl8.2.2.1))
    else
      some (rl5.2.1, (D.builder.mk (D.Circuit.mk rl5.2.2.1 rl5.2.2.2.2.1) rl5.2.2.2.2.2 rl5.2.2.2.1))

def impl_builder_equal (n : Nat) (p0 : D.builder) (p1 : List Int) (p2 : List Int) : Option (Int × D.builder) :=
  (iterN (fun (s1 : Int × Int × Int × Bool × (List D.Gate) × (List (D.Gate × Int))) =>
    if (decide (s1.2.1 < (len p1))) then
      (get? p1 s1.2.1).bind fun x1 =>
      (get? p2 s1.2.1).bind fun x2 =>
      (impl_builder_xor (D.builder.mk (D.Circuit.mk s1.2.2.1 s1.2.2.2.2.1) s1.2.2.2.2.2 s1.2.2.2.1) x1 x2).bind fun x3 =>
      (impl_builder_and x3.2 s1.1 (w64 (0 - x3.1))).bind fun x4 =>
      some (.inl (x4.1, (w64 (s1.2.1 + 1)), x4.2.c.Inputs, x4.2.full, x4.2.c.Gates, x4.2.line))
    else
      some (.inr (s1.1, s1.2.2.1, s1.2.2.2.1, s1.2.2.2.2.1, s1.2.2.2.2.2))
  ) n (1, 0, p0.c.Inputs, p0.full, p0.c.Gates, p0.line)).bind fun (rl1 : Int × Int × Bool × (List D.Gate) × (List (D.Gate × Int))) =>
  some (rl1.1, (D.builder.mk (D.Circuit.mk rl1.2.1 rl1.2.2.2.1) rl1.2.2.2.2 rl1.2.2.1))

def impl_builder_less (n : Nat) (p0 : D.builder) (p1 : List Int) (p2 : List Int) : Option (Int × D.builder) :=
  (impl_opposites n p2).bind fun x1 =>
  (impl_builder_add n p0 p1 x1 1).bind fun x2 =>
  some ((w64 (0 - x2.2.1)), x2.2.2)

def impl_signTurned (p0 : List Int) : Option (List Int) :=
  (slices_Clone___int_int_ p0).bind fun x1 =>
  (get? x1 (w64 ((len x1) - 1))).bind fun x2 =>
  (set? x1 (w64 ((len x1) - 1)) (w64 (0 - x2))).bind fun x3 =>
  some x3

def impl_builder_operate (n : Nat) (p0 : D.builder) (p1 : Int) (p2 : List Int) (p3 : List Int) : Option ((List Int) × D.builder) :=
  if (p1 == 3) then
    (impl_builder_add n p0 p2 p3 (-1)).bind fun x1 =>
    some (x1.1, x1.2.2)
  else
    if (p1 == 4) then
      (impl_opposites n p3).bind fun x2 =>
      (impl_builder_add n p0 p2 x2 1).bind fun x3 =>
      some (x3.1, x3.2.2)
    else
      if (p1 == 5) then
        (impl_builder_multiply n p0 p2 p3).bind fun x4 =>
        some (x4.1, x4.2)
      else
        if (p1 == 6) then
          (impl_builder_divide n p0 p2 p3).bind fun x5 =>
          some (x5.1, x5.2.2)
        else
          if (p1 == 7) then
            (impl_builder_divide n p0 p2 p3).bind fun x6 =>
            some (x6.2.1, x6.2.2)
          else
            if (p1 == 11) then
              if (p1 == 11) then
                (impl_builder_shift n p0 p1 p2 p3).bind fun x7 =>
                some (x7.1, x7.2)
              else
                if (p1 == 14) then
                  (impl_builder_equal n p0 p2 p3).bind fun x8 =>
                  some (([x8.1] : List Int), x8.2)
                else
                  if (p1 == 15) then
                    (impl_builder_less n p0 p2 p3).bind fun x9 =>
                    some (([x9.1] : List Int), x9.2)
                  else
                    if (p1 == 16) then
                      (impl_signTurned p2).bind fun x10 =>
                      (impl_signTurned p3).bind fun x11 =>
                      (impl_builder_less n p0 x10 x11).bind fun x12 =>
                      some (([x12.1] : List Int), x12.2)
                    else
                      (mk? (len p2) (0 : Int)).bind fun x13 =>
                      (iterN (fun (s1 : Int × (List Int) × Int × Bool × (List D.Gate) × (List (D.Gate × Int))) =>
                        if (decide (s1.1 < (len p2))) then
                          if (p1 == 8) then
                            (get? p2 s1.1).bind fun x14 =>
                            (get? p3 s1.1).bind fun x15 =>
                            (impl_builder_and (D.builder.mk (D.Circuit.mk s1.2.2.1 s1.2.2.2.2.1) s1.2.2.2.2.2 s1.2.2.2.1) x14 x15).bind fun x16 =>
                            (set? s1.2.1 s1.1 x16.1).bind fun x17 =>
                            some (.inl ((w64 (s1.1 + 1)), x17, x16.2.c.Inputs, x16.2.full, x16.2.c.Gates, x16.2.line))
                          else
                            if (p1 == 9) then
                              (get? p2 s1.1).bind fun x18 =>
                              (get? p3 s1.1).bind fun x19 =>
                              (impl_builder_or (D.builder.mk (D.Circuit.mk s1.2.2.1 s1.2.2.2.2.1) s1.2.2.2.2.2 s1.2.2.2.1) x18 x19).bind fun x20 =>
                              (set? s1.2.1 s1.1 x20.1).bind fun x21 =>
                              some (.inl ((w64 (s1.1 + 1)), x21, x20.2.c.Inputs, x20.2.full, x20.2.c.Gates, x20.2.line))
                            else
                              (get? p2 s1.1).bind fun x22 =>
                              (get? p3 s1.1).bind fun x23 =>
                              (impl_builder_xor (D.builder.mk (D.Circuit.mk s1.2.2.1 s1.2.2.2.2.1) s1.2.2.2.2.2 s1.2.2.2.1) x22 x23).bind fun x24 =>
                              (set? s1.2.1 s1.1 x24.1).bind fun x25 =>
                              some (.inl ((w64 (s1.1 + 1)), x25, x24.2.c.Inputs, x24.2.full, x24.2.c.Gates, x24.2.line))
                        else
                          some (.inr (s1.2.1, s1.2.2.1, s1.2.2.2.1, s1.2.2.2.2.1, s1.2.2.2.2.2))
                      ) n (0, x13, p0.c.Inputs, p0.full, p0.c.Gates, p0.line)).bind fun (rl1 : (List Int) × Int × Bool × (List D.Gate) × (List (D.Gate × Int))) =>
                      some (rl1.1, (D.builder.mk (D.Circuit.mk rl1.2.1 rl1.2.2.2.1) rl1.2.2.2.2 rl1.2.2.1))
            else
              if ((p1 == 12) || (p1 == 13)) then
                (impl_builder_shift n p0 p1 p2 p3).bind fun x26 =>
                some (x26.1, x26.2)
              else
                if (p1 == 14) then
                  (impl_builder_equal n p0 p2 p3).bind fun x27 =>
                  some (([x27.1] : List Int), x27.2)
                else
                  if (p1 == 15) then
                    (impl_builder_less n p0 p2 p3).bind fun x28 =>
                    some (([x28.1] : List Int), x28.2)
                  else
                    if (p1 == 16) then
                      (impl_signTurned p2).bind fun x29 =>
                      (impl_signTurned p3).bind fun x30 =>
                      (impl_builder_less n p0 x29 x30).bind fun x31 =>
                      some (([x31.1] : List Int), x31.2)
                    else
                      (mk? (len p2) (0 : Int)).bind fun x32 =>
                      (iterN (fun (s2 : Int × (List Int) × Int × Bool × (List D.Gate) × (List (D.Gate × Int))) =>
                        if (decide (s2.1 < (len p2))) then
                          if (p1 == 8) then
                            (get? p2 s2.1).bind fun x33 =>
                            (get? p3 s2.1).bind fun x34 =>
                            (impl_builder_and (D.builder.mk (D.Circuit.mk s2.2.2.1 s2.2.2.2.2.1) s2.2.2.2.2.2 s2.2.2.2.1) x33 x34).bind fun x35 =>
                            (set? s2.2.1 s2.1 x35.1).bind fun x36 =>
                            some (.inl ((w64 (s2.1 + 1)), x36, x35.2.c.Inputs, x35.2.full, x35.2.c.Gates, x35.2.line))
                          else
                            if (p1 == 9) then
                              (get? p2 s2.1).bind fun x37 =>
                              (get? p3 s2.1).bind fun x38 =>
                              (impl_builder_or (D.builder.mk (D.Circuit.mk s2.2.2.1 s2.2.2.2.2.1) s2.2.2.2.2.2 s2.2.2.2.1) x37 x38).bind fun x39 =>
                              (set? s2.2.1 s2.1 x39.1).bind fun x40 =>
                              some (.inl ((w64 (s2.1 + 1)), x40, x39.2.c.Inputs, x39.2.full, x39.2.c.Gates, x39.2.line))
                            else
                              (get? p2 s2.1).bind fun x41 =>
                              (get? p3 s2.1).bind fun x42 =>
                              (impl_builder_xor (D.builder.mk (D.Circuit.mk s2.2.2.1 s2.2.2.2.2.1) s2.2.2.2.2.2 s2.2.2.2.1) x41 x42).bind fun x43 =>
                              (set? s2.2.1 s2.1 x43.1).bind fun x44 =>
                              some (.inl ((w64 (s2.1 + 1)), x44, x43.2.c.Inputs, x43.2.full, x43.2.c.Gates, x43.2.line))
                        else
                          some (.inr (s2.2.1, s2.2.2.1, s2.2.2.2.1, s2.2.2.2.2.1, s2.2.2.2.2.2))
                      ) n (0, x32, p0.c.Inputs, p0.full, p0.c.Gates, p0.line)).bind fun (rl2 : (List Int) × Int × Bool × (List D.Gate) × (List (D.Gate × Int))) =>
                      some (rl2.1, (D.builder.mk (D.Circuit.mk rl2.2.1 rl2.2.2.2.1) rl2.2.2.2.2 rl2.2.2.1))

def impl_OpLits (n : Nat) (p0 : D.Circuit) (p1 : Int) (p2 : List Int) (p3 : List Int) : Option (D.Circuit × (List Int) × Bool) :=
  (impl_CircuitOk n p0).bind fun x1 =>
  (if (!x1) then some default else (impl_isTwoWords p1)).bind fun x2 =>
  if (((((!x1) || (!x2)) || ((len p2) != (len p3))) || (decide ((len p2) < 1))) || (decide ((len p2) > 15))) then
    some ((D.Circuit.mk 0 ([] : List D.Gate)), ([] : List Int), false)
  else
    (impl_linesOf p0).bind fun x3 =>
    (impl_literalsOk n p2 x3).bind fun x4 =>
    (if (!x4) then some default else (impl_linesOf p0)).bind fun x5 =>
    (if (!x4) then some default else (impl_literalsOk n p3 x5)).bind fun x6 =>
    if ((!x4) || (!x6)) then
      some ((D.Circuit.mk 0 ([] : List D.Gate)), ([] : List Int), false)
    else
      (impl_newBuilder n p0).bind fun x7 =>
      (impl_builder_operate n x7 p1 p2 p3).bind fun x8 =>
      if x8.2.full then
        some ((D.Circuit.mk 0 ([] : List D.Gate)), ([] : List Int), false)
      else
        some (x8.2.c, x8.1, true)

def laws_eqGate (p0 : D.Gate) (p1 : D.Gate) : Option Bool :=
  if (p0.A != p1.A) then
    some false
  else
    if (p0.B != p1.B) then
      some false
    else
      some true

def laws_eqGateS (n : Nat) (p0 : List D.Gate) (p1 : List D.Gate) : Option Bool :=
  if ((len p0) != (len p1)) then
    some false
  else
    (iterN (fun (s1 : Int) =>
      if (decide (s1 < (len p0))) then
        (get? p0 s1).bind fun x1 =>
        (get? p1 s1).bind fun x2 =>
        (laws_eqGate x1 x2).bind fun x3 =>
        if (!x3) then
          some (.inr (.inr false))
        else
          some (.inl ((w64 (s1 + 1))))
      else
        some (.inr (.inl ()))
    ) n (0)).bind fun (rl1 : (Unit) ⊕ Bool) =>
    match rl1 with
    | .inl s1r =>
      some true
    | .inr v => some v

def laws_eqCircuit (n : Nat) (p0 : D.Circuit) (p1 : D.Circuit) : Option Bool :=
  if (p0.Inputs != p1.Inputs) then
    some false
  else
    (laws_eqGateS n p0.Gates p1.Gates).bind fun x1 =>
    if (!x1) then
      some false
    else
      some true

def laws_eqIntS (n : Nat) (p0 : List Int) (p1 : List Int) : Option Bool :=
  if ((len p0) != (len p1)) then
    some false
  else
    (iterN (fun (s1 : Int) =>
      if (decide (s1 < (len p0))) then
        (get? p0 s1).bind fun x1 =>
        (get? p1 s1).bind fun x2 =>
        if (x1 != x2) then
          some (.inr (.inr false))
        else
          some (.inl ((w64 (s1 + 1))))
      else
        some (.inr (.inl ()))
    ) n (0)).bind fun (rl1 : (Unit) ⊕ Bool) =>
    match rl1 with
    | .inl s1r =>
      some true
    | .inr v => some v

def laws_markGateS (n : Nat) (p0 : List D.Gate) (p1 : Int) : Option (Int × (List D.Gate)) :=
  (iterN (fun (s1 : Int × Int × (List D.Gate)) =>
    if (decide (s1.2.1 < (len p0))) then
      (get? s1.2.2 s1.2.1).bind fun x1 =>
      (set? s1.2.2 s1.2.1 ({ x1 with A := s1.1 } : D.Gate)).bind fun x2 =>
      (get? x2 s1.2.1).bind fun x3 =>
      (set? x2 s1.2.1 ({ x3 with B := (w64 (s1.1 + 1)) } : D.Gate)).bind fun x4 =>
      some (.inl ((w64 ((w64 (s1.1 + 1)) + 1)), (w64 (s1.2.1 + 1)), x4))
    else
      some (.inr (s1.1, s1.2.2))
  ) n (p1, 0, p0)).bind fun (rl1 : Int × (List D.Gate)) =>
  some (rl1.1, rl1.2)

def laws_markCircuit (n : Nat) (p0 : D.Circuit) (p1 : Int) : Option (Int × D.Circuit) :=
  (laws_markGateS n p0.Gates p1).bind fun x1 =>
  some (x1.1, (D.Circuit.mk p0.Inputs x1.2))

def laws_markIntS (n : Nat) (p0 : List Int) (p1 : Int) : Option (Int × (List Int)) :=
  (iterN (fun (s1 : Int × Int × (List Int)) =>
    if (decide (s1.2.1 < (len p0))) then
      (set? s1.2.2 s1.2.1 s1.1).bind fun x1 =>
      some (.inl ((w64 (s1.1 + 1)), (w64 (s1.2.1 + 1)), x1))
    else
      some (.inr (s1.1, s1.2.2))
  ) n (p1, 0, p0)).bind fun (rl1 : Int × (List Int)) =>
  some (rl1.1, rl1.2)

def laws_heldGateS (n : Nat) (p0 : List D.Gate) (p1 : Int) : Option Int :=
  (iterN (fun (s1 : Int × Int) =>
    if (decide (s1.2 < (len p0))) then
      (get? p0 s1.2).bind fun x1 =>
      if (x1.A != s1.1) then
        some (.inr (.inr (-1)))
      else
        (get? p0 s1.2).bind fun x2 =>
        if (x2.B != (w64 (s1.1 + 1))) then
          some (.inr (.inr (-1)))
        else
          some (.inl ((w64 ((w64 (s1.1 + 1)) + 1)), (w64 (s1.2 + 1))))
    else
      some (.inr (.inl (s1.1)))
  ) n (p1, 0)).bind fun (rl1 : (Int) ⊕ Int) =>
  match rl1 with
  | .inl s1r =>
    some s1r
  | .inr v => some v

def laws_heldCircuit (n : Nat) (p0 : D.Circuit) (p1 : Int) : Option Int :=
  (laws_heldGateS n p0.Gates p1).bind fun x1 =>
  if (decide (x1 < 0)) then
    some (-1)
  else
    some x1

def laws_heldIntS (n : Nat) (p0 : List Int) (p1 : Int) : Option Int :=
  (iterN (fun (s1 : Int × Int) =>
    if (decide (s1.2 < (len p0))) then
      (get? p0 s1.2).bind fun x1 =>
      if (x1 != s1.1) then
        some (.inr (.inr (-1)))
      else
        some (.inl ((w64 (s1.1 + 1)), (w64 (s1.2 + 1))))
    else
      some (.inr (.inl (s1.1)))
  ) n (p1, 0)).bind fun (rl1 : (Int) ⊕ Int) =>
  match rl1 with
  | .inl s1r =>
    some s1r
  | .inr v => some v

def laws_FnExactOpLits (n : Nat) (p0 : D.Circuit) (p1 : Int) (p2 : List Int) (p3 : List Int) : Option Bool :=
  if (decide ((len p2) > 1048576)) then
    some true
  else
    if (decide ((len p3) > 1048576)) then
      some true
    else
      (laws_szCircuit p0 1048576).bind fun x1 =>
      if (decide (x1 < 0)) then
        some true
      else
        (laws_toCircuit n p0).bind fun x2 =>
        (laws_toIntS n p2).bind fun x3 =>
        (laws_toIntS n p3).bind fun x4 =>
        (spec_OpLits n x2 p1 x3 x4).bind fun x5 =>
        (laws_toCircuit n p0).bind fun x6 =>
        (laws_toIntS n p2).bind fun x7 =>
        (laws_toIntS n p3).bind fun x8 =>
        (impl_OpLits n x6 p1 x7 x8).bind fun x9 =>
        (laws_eqCircuit n x9.1 x5.1).bind fun x10 =>
        (if (!x10) then some default else (laws_eqIntS n x9.2.1 x5.2.1)).bind fun x11 =>
        if (((!x10) || (!x11)) || (!(x9.2.2 == x5.2.2))) then
          some false
        else
          (laws_toCircuit n p0).bind fun x12 =>
          (laws_eqCircuit n x6 x12).bind fun x13 =>
          if (!x13) then
            some false
          else
            (laws_toIntS n p2).bind fun x14 =>
            (laws_eqIntS n x7 x14).bind fun x15 =>
            if (!x15) then
              some false
            else
              (laws_toIntS n p3).bind fun x16 =>
              (laws_eqIntS n x8 x16).bind fun x17 =>
              if (!x17) then
                some false
              else
                (laws_markCircuit n x6 1).bind fun x18 =>
                (laws_markIntS n x7 x18.1).bind fun x19 =>
                (laws_markIntS n x8 x19.1).bind fun x20 =>
                (if (decide (x20.1 < 0)) then some default else (laws_eqCircuit n x9.1 x5.1)).bind fun x21 =>
                (if ((decide (x20.1 < 0)) || (!x21)) then some default else (laws_eqIntS n x9.2.1 x5.2.1)).bind fun x22 =>
                if ((((decide (x20.1 < 0)) || (!x21)) || (!x22)) || (!(x9.2.2 == x5.2.2))) then
                  some false
                else
                  (laws_markCircuit n x9.1 1).bind fun x23 =>
                  (laws_markIntS n x9.2.1 x23.1).bind fun x24 =>
                  (laws_heldCircuit n (D.Circuit.mk x9.1.Inputs x23.2.Gates) 1).bind fun x25 =>
                  if (decide (x25 < 0)) then
                    some false
                  else
                    (laws_heldIntS n x24.2 x25).bind fun x26 =>
                    if (decide (x26 < 0)) then
                      some false
                    else
                      if (x26 != x24.1) then
                        some false
                      else
                        (laws_toCircuit n p0).bind fun x27 =>
                        (laws_toIntS n p2).bind fun x28 =>
                        (laws_toIntS n p3).bind fun x29 =>
                        (impl_OpLits n x27 p1 x28 x29).bind fun x30 =>
                        (laws_eqCircuit n x30.1 x5.1).bind fun x31 =>
                        (if (!x31) then some default else (laws_eqIntS n x30.2.1 x5.2.1)).bind fun x32 =>
                        if (((!x31) || (!x32)) || (!(x30.2.2 == x5.2.2))) then
                          some false
                        else
                          (laws_heldCircuit n (D.Circuit.mk x9.1.Inputs x23.2.Gates) 1).bind fun x33 =>
                          if (decide (x33 < 0)) then
                            some false
                          else
                            (laws_heldIntS n x24.2 x33).bind fun x34 =>
                            if (decide (x34 < 0)) then
                              some false
                            else
                              if (x34 != x24.1) then
                                some false
                              else
                                some true
end Go.GL
