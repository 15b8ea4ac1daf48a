/- Printed by gen2.py: Go functions as Lean functions. -/
import Derived.Test.YtfccdlggophhoaaGLp
set_option linter.unusedVariables false
namespace Go.GL
def laws_szIntS (p0 : List Int) (p1 : Int) : Option Int :=
  if (decide ((w64 (p1 - (len p0))) < 0)) then
    some (-1)
  else
    some (w64 (p1 - (len p0)))

def laws_szState (p0 : D.State) (p1 : Int) : Option Int :=
  (laws_szIntS p0.Regs p1).bind fun x1 =>
  if (decide (x1 < 0)) then
    some (-1)
  else
    (laws_szIntS p0.Mem x1).bind fun x2 =>
    if (decide (x2 < 0)) then
      some (-1)
    else
      (laws_szIntS p0.Stack x2).bind fun x3 =>
      if (decide (x3 < 0)) then
        some (-1)
      else
        (laws_szIntS p0.Out x3).bind fun x4 =>
        if (decide (x4 < 0)) then
          some (-1)
        else
          some x4

def laws_toIntS (n : Nat) (p0 : List Int) : Option (List Int) :=
  (mk? (len p0) (0 : Int)).bind fun x1 =>
  (iterN (fun (s1 : (List Int) × Int) =>
    if (decide (s1.2 < (len p0))) then
      (get? p0 s1.2).bind fun x2 =>
      (set? s1.1 s1.2 x2).bind fun x3 =>
      some (.inl (x3, (w64 (s1.2 + 1))))
    else
      some (.inr (s1.1))
  ) n (x1, 0)).bind fun (rl1 : (List Int)) =>
  some rl1

def laws_toState (n : Nat) (p0 : D.State) : Option D.State :=
  (laws_toIntS n p0.Regs).bind fun x1 =>
  (laws_toIntS n p0.Mem).bind fun x2 =>
  (laws_toIntS n p0.Stack).bind fun x3 =>
  (laws_toIntS n p0.Out).bind fun x4 =>
  some (D.State.mk p0.Pc x1 x2 x3 p0.In x4 p0.Code p0.Steps)

def spec_l05Ints (n : Nat) (p0 : List Int) (p1 : List Int) : Option Bool :=
  if ((len p0) != (len p1)) then
    some false
  else
    (iterN (fun (s1 : Int) =>
      if (decide (s1 < (len p0))) then
        (get? p0 s1).bind fun x1 =>
        (get? p1 s1).bind fun x2 =>
        if (x1 != x2) then
          some (.inr (.inr false))
        else
          some (.inl ((w64 (s1 + 1))))
      else
        some (.inr (.inl ()))
    ) n (0)).bind fun (rl1 : (Unit) ⊕ Bool) =>
    match rl1 with
    | .inl s1r =>
      some true
    | .inr v => some v

def spec_SameRun (n : Nat) (p0 : D.State) (p1 : D.State) : Option Bool :=
  (if (p0.Code == p1.Code) then (spec_l05Ints n p0.Out p1.Out) else some default).bind fun x1 =>
  some ((p0.Code == p1.Code) && x1)

def slices_Equal___int_int_ (n : Nat) (p0 : List Int) (p1 : List Int) : Option Bool :=
  if ((len p0) != (len p1)) then
    some false
  else
    (iterN (fun (s1 : Int) =>
      if (decide (s1 < (len p0))) then
        (get? p0 s1).bind fun x1 =>
        (get? p1 s1).bind fun x2 =>
        if (x1 != x2) then
          some (.inr (.inr false))
        else
          some (.inl ((w64 (s1 + 1))))
      else
        some (.inr (.inl ()))
    ) n (0)).bind fun (rl1 : (Unit) ⊕ Bool) =>
    match rl1 with
    | .inl s1r =>
      some true
    | .inr v => some v

def impl_SameRun (n : Nat) (p0 : D.State) (p1 : D.State) : Option Bool :=
  (if (p0.Code == p1.Code) then (slices_Equal___int_int_ n p0.Out p1.Out) else some default).bind fun x1 =>
  some ((p0.Code == p1.Code) && x1)

def laws_eqIntS (n : Nat) (p0 : List Int) (p1 : List Int) : Option Bool :=
  if ((len p0) != (len p1)) then
    some false
  else
    (iterN (fun (s1 : Int) =>
      if (decide (s1 < (len p0))) then
        (get? p0 s1).bind fun x1 =>
        (get? p1 s1).bind fun x2 =>
        if (x1 != x2) then
          some (.inr (.inr false))
        else
          some (.inl ((w64 (s1 + 1))))
      else
        some (.inr (.inl ()))
    ) n (0)).bind fun (rl1 : (Unit) ⊕ Bool) =>
    match rl1 with
    | .inl s1r =>
      some true
    | .inr v => some v

def laws_eqState (n : Nat) (p0 : D.State) (p1 : D.State) : Option Bool :=
  if (p0.Pc != p1.Pc) then
    some false
  else
    (laws_eqIntS n p0.Regs p1.Regs).bind fun x1 =>
    if (!x1) then
      some false
    else
      (laws_eqIntS n p0.Mem p1.Mem).bind fun x2 =>
      if (!x2) then
        some false
      else
        (laws_eqIntS n p0.Stack p1.Stack).bind fun x3 =>
        if (!x3) then
          some false
        else
          if (p0.In != p1.In) then
            some false
          else
            (laws_eqIntS n p0.Out p1.Out).bind fun x4 =>
            if (!x4) then
              some false
            else
              if (p0.Code != p1.Code) then
                some false
              else
                if (p0.Steps != p1.Steps) then
                  some false
                else
                  some true

def laws_FnExactSameRun (n : Nat) (p0 : D.State) (p1 : D.State) : Option Bool :=
  (laws_szState p0 1048576).bind fun x1 =>
  if (decide (x1 < 0)) then
    some true
  else
    (laws_szState p1 x1).bind fun x2 =>
    if (decide (x2 < 0)) then
      some true
    else
      (laws_toState n p0).bind fun x3 =>
      (laws_toState n p1).bind fun x4 =>
      (spec_SameRun n x3 x4).bind fun x5 =>
      (laws_toState n p0).bind fun x6 =>
      (laws_toState n p1).bind fun x7 =>
      (impl_SameRun n x6 x7).bind fun x8 =>
      if (!(x8 == x5)) then
        some false
      else
        (laws_toState n p0).bind fun x9 =>
        (laws_eqState n x6 x9).bind fun x10 =>
        if (!x10) then
          some false
        else
          (laws_toState n p1).bind fun x11 =>
          (laws_eqState n x7 x11).bind fun x12 =>
          if (!x12) then
            some false
          else
            some true
end Go.GL
