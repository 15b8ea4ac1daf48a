/- Printed by gen2.py: Go functions as Lean functions. -/
import Derived.Test.YtmmhbhhcloobnaaDoorGLp
import Derived.Lib.ItoaNum
import Derived.Lib.Join
import Derived.Lib.Split
import Derived.Lib.AtoiAll
set_option linter.unusedVariables false
namespace Go.GL
def spec_l01In (p0 : Int) (p1 : Int) (p2 : Int) : Option Bool :=
  some ((decide (p0 ≥ p1)) && (decide (p0 ≤ p2)))

def spec_FormatInt (n : Nat) (p0 : Int) : Option Str :=
  match n with
  | 0 => none
  | n + 1 =>
  if (decide (p0 < 0)) then
    (quo? p0 10).bind fun x1 =>
    if (x1 == 0) then
      (cat? (⟨[45]⟩) (strOf ([(Byt.mk (IntKind.u8.wrap (w64 (48 - p0))))] : List Byt))).bind fun x2 =>
      some x2
    else
      (quo? p0 10).bind fun x3 =>
      (spec_FormatInt n x3).bind fun x4 =>
      (rem? p0 10).bind fun x5 =>
      (cat? x4 (strOf ([(Byt.mk (IntKind.u8.wrap (w64 (48 - x5))))] : List Byt))).bind fun x6 =>
      some x6
  else
    (iterN (fun (s1 : Int × Str) =>
      if (decide (s1.1 > 9)) then
        (rem? s1.1 10).bind fun x7 =>
        (cat? (strOf ([(Byt.mk (IntKind.u8.wrap (w64 (48 + x7))))] : List Byt)) s1.2).bind fun x8 =>
        (quo? s1.1 10).bind fun x9 =>
        some (.inl (x9, x8))
      else
        some (.inr (s1.1, s1.2))
    ) n (p0, ⟨[]⟩)).bind fun (rl1 : Int × Str) =>
    (cat? (strOf ([(Byt.mk (IntKind.u8.wrap (w64 (48 + rl1.1))))] : List Byt)) rl1.2).bind fun x10 =>
    some x10


def spec_ParseInt (n : Nat) (p0 : Str) : Option (Int × Bool) :=
  (if (decide ((len p0.bytes) > 0)) then (sidx? p0 0) else some default).bind fun x1 =>
  if ((decide ((len p0.bytes) > 0)) && (x1 == 45)) then
    (scut? p0 1 (len p0.bytes)).bind fun x2 =>
    if ((decide ((len x2.bytes) < 1)) || (decide ((len x2.bytes) > 19))) then
      some (0, false)
    else
      (iterN (fun (s1 : Int × Int) =>
        if (decide (s1.2 < (len x2.bytes))) then
          (sidx? x2 s1.2).bind fun x3 =>
          (spec_l01In (w64 ((w64 x3) - 48)) 0 9).bind fun x4 =>
          (if (!x4) then some default else (quo? (w64 ((-9223372036854775808) + (w64 ((w64 x3) - 48)))) 10)).bind fun x5 =>
          if ((!x4) || (decide (s1.1 < x5))) then
            some (.inr (.inr (0, false)))
          else
            some (.inl ((w64 ((w64 (s1.1 * 10)) - (w64 ((w64 x3) - 48)))), (w64 (s1.2 + 1))))
        else
          some (.inr (.inl (s1.1)))
      ) n (0, 0)).bind fun (rl1 : (Int) ⊕ (Int × Bool)) =>
      match rl1 with
      | .inl s1r =>
        if (!((decide ((len p0.bytes) > 0)) && (x1 == 45))) then
          if (s1r == (-9223372036854775808)) then
            some (0, false)
          else
            (spec_FormatInt n (w64 (0 - s1r))).bind fun x6 =>
            if (!(Str.eqb x6 p0)) then
              some (0, false)
            else
              some ((w64 (0 - s1r)), true)
        else
          (spec_FormatInt n s1r).bind fun x7 =>
          if (!(Str.eqb x7 p0)) then
            some (0, false)
          else
            some (s1r, true)
      | .inr v => some v
  else
    if ((decide ((len p0.bytes) < 1)) || (decide ((len p0.bytes) > 19))) then
      some (0, false)
    else
      (iterN (fun (s2 : Int × Int) =>
        if (decide (s2.2 < (len p0.bytes))) then
          (sidx? p0 s2.2).bind fun x8 =>
          (spec_l01In (w64 ((w64 x8) - 48)) 0 9).bind fun x9 =>
          (if (!x9) then some default else (quo? (w64 ((-9223372036854775808) + (w64 ((w64 x8) - 48)))) 10)).bind fun x10 =>
          if ((!x9) || (decide (s2.1 < x10))) then
            some (.inr (.inr (0, false)))
          else
            some (.inl ((w64 ((w64 (s2.1 * 10)) - (w64 ((w64 x8) - 48)))), (w64 (s2.2 + 1))))
        else
          some (.inr (.inl (s2.1)))
      ) n (0, 0)).bind fun (rl2 : (Int) ⊕ (Int × Bool)) =>
      match rl2 with
      | .inl s2r =>
        if (!((decide ((len p0.bytes) > 0)) && (x1 == 45))) then
          if (s2r == (-9223372036854775808)) then
            some (0, false)
          else
            (spec_FormatInt n (w64 (0 - s2r))).bind fun x11 =>
            if (!(Str.eqb x11 p0)) then
              some (0, false)
            else
              some ((w64 (0 - s2r)), true)
        else
          (spec_FormatInt n s2r).bind fun x12 =>
          if (!(Str.eqb x12 p0)) then
            some (0, false)
          else
            some (s2r, true)
      | .inr v => some v

def spec_ParseInts (n : Nat) (p0 : Str) : Option ((List Int) × Bool) :=
  (iterN (fun (s1 : Int × Int × (List Int)) =>
    if ((decide (s1.2.1 ≤ (len p0.bytes))) && (decide ((len p0.bytes) > 0))) then
      (if (s1.2.1 == (len p0.bytes)) then some default else (sidx? p0 s1.2.1)).bind fun x1 =>
      if ((s1.2.1 == (len p0.bytes)) || (x1 == 32)) then
        (scut? p0 s1.1 s1.2.1).bind fun x2 =>
        (spec_ParseInt n x2).bind fun x3 =>
        if (!x3.2) then
          some (.inr (.inr (([] : List Int), false)))
        else
          (app? s1.2.2 ([x3.1] : List Int)).bind fun x4 =>
          some (.inl ((w64 (s1.2.1 + 1)), (w64 (s1.2.1 + 1)), x4))
      else
        some (.inl (s1.1, (w64 (s1.2.1 + 1)), s1.2.2))
    else
      some (.inr (.inl (s1.2.2)))
  ) n (0, 0, ([] : List Int))).bind fun (rl1 : ((List Int)) ⊕ ((List Int) × Bool)) =>
  match rl1 with
  | .inl s1r =>
    some (s1r, true)
  | .inr v => some v

def spec_l03Abs (p0 : Int) : Option Int :=
  if (decide (p0 < 0)) then
    some (w64 (0 - p0))
  else
    some p0

def spec_l03Clause (n : Nat) (p0 : List Int) (p1 : Int) : Option Bool :=
  (iterN (fun (s1 : Int × Int) =>
    if (decide (s1.2 < (len p0))) then
      (get? p0 s1.2).bind fun x1 =>
      (spec_l01In x1 (w64 (0 - p1)) p1).bind fun x2 =>
      (if (!x2) then some default else (spec_l03Abs x1)).bind fun x3 =>
      if ((!x2) || (decide (x3 ≤ s1.1))) then
        some (.inr (.inr false))
      else
        (spec_l03Abs x1).bind fun x4 =>
        some (.inl (x4, (w64 (s1.2 + 1))))
    else
      some (.inr (.inl ()))
  ) n (0, 0)).bind fun (rl1 : (Unit) ⊕ Bool) =>
  match rl1 with
  | .inl s1r =>
    some true
  | .inr v => some v

def spec_FormulaOk (n : Nat) (p0 : D.Formula) : Option Bool :=
  (spec_l01In p0.Vars 0 400).bind fun x1 =>
  if ((!x1) || (decide ((len p0.Clauses) > 1600))) then
    some false
  else
    (iterN (fun (s1 : Int) =>
      if (decide (s1 < (len p0.Clauses))) then
        (get? p0.Clauses s1).bind fun x2 =>
        (spec_l03Clause n x2 p0.Vars).bind fun x3 =>
        if (!x3) then
          some (.inr (.inr false))
        else
          some (.inl ((w64 (s1 + 1))))
      else
        some (.inr (.inl ()))
    ) n (0)).bind fun (rl1 : (Unit) ⊕ Bool) =>
    match rl1 with
    | .inl s1r =>
      some true
    | .inr v => some v

def spec_Join (n : Nat) (p0 : List Str) (p1 : Str) : Option Str :=
  (iterN (fun (s1 : Str × Int) =>
    if (decide (s1.2 < (len p0))) then
      (get? p0 s1.2).bind fun x1 =>
      if (decide (s1.2 > 0)) then
        (cat? s1.1 p1).bind fun x2 =>
        (cat? x2 x1).bind fun x3 =>
        some (.inl (x3, (w64 (s1.2 + 1))))
      else
        (cat? s1.1 x1).bind fun x4 =>
        some (.inl (x4, (w64 (s1.2 + 1))))
    else
      some (.inr (s1.1))
  ) n (⟨[]⟩, 0)).bind fun (rl1 : Str) =>
  some rl1

def spec_FormatInts (n : Nat) (p0 : List Int) : Option Str :=
  (iterN (fun (s1 : Int × (List Str)) =>
    if (decide (s1.1 < (len p0))) then
      (get? p0 s1.1).bind fun x1 =>
      (spec_FormatInt n x1).bind fun x2 =>
      (app? s1.2 ([x2] : List Str)).bind fun x3 =>
      some (.inl ((w64 (s1.1 + 1)), x3))
    else
      some (.inr (s1.2))
  ) n (0, ([] : List Str))).bind fun (rl1 : (List Str)) =>
  (spec_Join n rl1 (⟨[32]⟩)).bind fun x4 =>
  some x4

def spec_FormatFormula (n : Nat) (p0 : D.Formula) : Option Str :=
  (spec_FormulaOk n p0).bind fun x1 =>
  if (!x1) then
    some (⟨[]⟩)
  else
    (spec_FormatInt n p0.Vars).bind fun x2 =>
    (iterN (fun (s1 : Str × Int) =>
      if (decide (s1.2 < (len p0.Clauses))) then
        (get? p0.Clauses s1.2).bind fun x3 =>
        (cat? s1.1 (⟨[124]⟩)).bind fun x4 =>
        (spec_FormatInts n x3).bind fun x5 =>
        (cat? x4 x5).bind fun x6 =>
        some (.inl (x6, (w64 (s1.2 + 1))))
      else
        some (.inr (s1.1))
    ) n (x2, 0)).bind fun (rl1 : Str) =>
    some rl1

def spec_ParseFormula (n : Nat) (p0 : Str) : Option (D.Formula × Bool) :=
  (iterN (fun (s1 : Int × Bool × Int × (List (List Int)) × Int) =>
    if (decide (s1.2.2.1 ≤ (len p0.bytes))) then
      (if (decide (s1.2.2.1 < (len p0.bytes))) then (sidx? p0 s1.2.2.1) else some default).bind fun x1 =>
      if ((decide (s1.2.2.1 < (len p0.bytes))) && (x1 != 124)) then
        some (.inl (s1.1, s1.2.1, (w64 (s1.2.2.1 + 1)), s1.2.2.2.1, s1.2.2.2.2))
      else
        if s1.2.1 then
          (scut? p0 s1.1 s1.2.2.1).bind fun x2 =>
          (spec_ParseInt n x2).bind fun x3 =>
          if (!x3.2) then
            some (.inr (.inr ((D.Formula.mk 0 ([] : List (List Int))), false)))
          else
            some (.inl ((w64 (s1.2.2.1 + 1)), false, (w64 (s1.2.2.1 + 1)), s1.2.2.2.1, x3.1))
        else
          (scut? p0 s1.1 s1.2.2.1).bind fun x4 =>
          (spec_ParseInts n x4).bind fun x5 =>
          if (!x5.2) then
            some (.inr (.inr ((D.Formula.mk 0 ([] : List (List Int))), false)))
          else
            (app? s1.2.2.2.1 ([x5.1] : List (List Int))).bind fun x6 =>
            some (.inl ((w64 (s1.2.2.1 + 1)), false, (w64 (s1.2.2.1 + 1)), x6, s1.2.2.2.2))
    else
      some (.inr (.inl (s1.2.2.2.1, s1.2.2.2.2)))
  ) n (0, true, 0, ([] : List (List Int)), 0)).bind fun (rl1 : ((List (List Int)) × Int) ⊕ (D.Formula × Bool)) =>
  match rl1 with
  | .inl s1r =>
    (spec_FormulaOk n (D.Formula.mk s1r.2 s1r.1)).bind fun x7 =>
    (if (!x7) then some default else (spec_FormatFormula n (D.Formula.mk s1r.2 s1r.1))).bind fun x8 =>
    if ((!x7) || (!(Str.eqb x8 p0))) then
      some ((D.Formula.mk 0 ([] : List (List Int))), false)
    else
      some ((D.Formula.mk s1r.2 s1r.1), true)
  | .inr v => some v

def strings_Split (p0 p1 : Str) : Option (List Str) :=
  if p0.bytes.length < 4294967281 ∧ 1 ≤ p1.bytes.length then some ((Lib.split p0.bytes p1.bytes).map Str.mk) else none


def strconv_Atoi (p0 : Str) : Option (Int × Bool) :=
  if p0.bytes.length ≤ 281474976710656 then some (match Lib.atoiAll p0.bytes with | .ok v => (v, false) | .range => (Lib.atoiSat p0.bytes, true) | _ => (0, true)) else none


def strconv_Itoa (p0 : Int) : Option Str :=
  if -9223372036854775808 ≤ p0 ∧ p0 ≤ 9223372036854775807 then some ⟨Lib.itoa p0⟩ else none


def impl_ParseInt (p0 : Str) : Option (Int × Bool) :=
  (strconv_Atoi p0).bind fun x1 =>
  if x1.2 then
    if true then
      some (0, false)
    else
      some (x1.1, true)
  else
    (strconv_Itoa x1.1).bind fun x2 =>
    if (!(Str.eqb x2 p0)) then
      some (0, false)
    else
      some (x1.1, true)

def impl_ParseInts (n : Nat) (p0 : Str) : Option ((List Int) × Bool) :=
  if (Str.eqb p0 (⟨[]⟩)) then
    some (([] : List Int), true)
  else
    (strings_Split p0 (⟨[32]⟩)).bind fun x1 =>
    (iterN (fun (s1 : Int × (List Int)) =>
      if (decide (s1.1 < (len x1))) then
        (get? x1 s1.1).bind fun x2 =>
        (impl_ParseInt x2).bind fun x3 =>
        if (!x3.2) then
          some (.inr (.inr (([] : List Int), false)))
        else
          (app? s1.2 ([x3.1] : List Int)).bind fun x4 =>
          some (.inl ((w64 (s1.1 + 1)), x4))
      else
        some (.inr (.inl (s1.2)))
    ) n (0, ([] : List Int))).bind fun (rl1 : ((List Int)) ⊕ ((List Int) × Bool)) =>
    match rl1 with
    | .inl s1r =>
      some (s1r, true)
    | .inr v => some v

def impl_isLiteral (p0 : Int) (p1 : Int) : Option Bool :=
  some (((p0 != 0) && (decide (p0 ≥ (w64 (0 - p1))))) && (decide (p0 ≤ p1)))

def impl_literalsOk (n : Nat) (p0 : List Int) (p1 : Int) : Option Bool :=
  (iterN (fun (s1 : Int) =>
    if (decide (s1 < (len p0))) then
      (get? p0 s1).bind fun x1 =>
      (impl_isLiteral x1 p1).bind fun x2 =>
      if (!x2) then
        some (.inr (.inr false))
      else
        some (.inl ((w64 (s1 + 1))))
    else
      some (.inr (.inl ()))
  ) n (0)).bind fun (rl1 : (Unit) ⊕ Bool) =>
  match rl1 with
  | .inl s1r =>
    some true
  | .inr v => some v

def impl_varOf (p0 : Int) : Option Int :=
  if (decide (p0 < 0)) then
    some (w64 (0 - p0))
  else
    some p0

def impl_clauseOk (n : Nat) (p0 : List Int) (p1 : Int) : Option Bool :=
  (impl_literalsOk n p0 p1).bind fun x1 =>
  if (!x1) then
    some false
  else
    (iterN (fun (s1 : Int) =>
      if (decide (s1 < (len p0))) then
        (get? p0 (w64 (s1 - 1))).bind fun x2 =>
        (impl_varOf x2).bind fun x3 =>
        (get? p0 s1).bind fun x4 =>
        (impl_varOf x4).bind fun x5 =>
        if (decide (x3 ≥ x5)) then
          some (.inr (.inr false))
        else
          some (.inl ((w64 (s1 + 1))))
      else
        some (.inr (.inl ()))
    ) n (1)).bind fun (rl1 : (Unit) ⊕ Bool) =>
    match rl1 with
    | .inl s1r =>
      some true
    | .inr v => some v

def impl_FormulaOk (n : Nat) (p0 : D.Formula) : Option Bool :=
  if (((decide (p0.Vars < 0)) || (decide (p0.Vars > 400))) || (decide ((len p0.Clauses) > 1600))) then
    some false
  else
    (iterN (fun (s1 : Int) =>
      if (decide (s1 < (len p0.Clauses))) then
        (get? p0.Clauses s1).bind fun x1 =>
        (impl_clauseOk n x1 p0.Vars).bind fun x2 =>
        if (!x2) then
          some (.inr (.inr false))
        else
          some (.inl ((w64 (s1 + 1))))
      else
        some (.inr (.inl ()))
    ) n (0)).bind fun (rl1 : (Unit) ⊕ Bool) =>
    match rl1 with
    | .inl s1r =>
      some true
    | .inr v => some v

def impl_FormatInt (p0 : Int) : Option Str :=
  (strconv_Itoa p0).bind fun x1 =>
  some x1



def strings_Join (p0 : List Str) (p1 : Str) : Option Str :=
  if p0.length ≤ 1000 ∧ (Lib.join (p0.map (·.bytes)) p1.bytes).length ≤ 140737488355328 then some ⟨Lib.join (p0.map (·.bytes)) p1.bytes⟩ else none


def impl_FormatInts (n : Nat) (p0 : List Int) : Option Str :=
  (mk? (len p0) (⟨[]⟩ : Str)).bind fun x1 =>
  (iterN (fun (s1 : Int × (List Str)) =>
    if (decide (s1.1 < (len p0))) then
      (get? p0 s1.1).bind fun x2 =>
      (impl_FormatInt x2).bind fun x3 =>
      (set? s1.2 s1.1 x3).bind fun x4 =>
      some (.inl ((w64 (s1.1 + 1)), x4))
    else
      some (.inr (s1.2))
  ) n (0, x1)).bind fun (rl1 : (List Str)) =>
  (strings_Join rl1 (⟨[32]⟩)).bind fun x5 =>
  some x5



def impl_FormatFormula (n : Nat) (p0 : D.Formula) : Option Str :=
  (impl_FormulaOk n p0).bind fun x1 =>
  if (!x1) then
    some (⟨[]⟩)
  else
    (impl_FormatInt p0.Vars).bind fun x2 =>
    (bw? (⟨[]⟩ : Str) x2).bind fun x3 =>
    (iterN (fun (s1 : Int × Str) =>
      if (decide (s1.1 < (len p0.Clauses))) then
        (get? p0.Clauses s1.1).bind fun x4 =>
        (impl_FormatInts n x4).bind fun x5 =>
        (cat? (⟨[124]⟩) x5).bind fun x6 =>
        (bw? s1.2 x6).bind fun x7 =>
        some (.inl ((w64 (s1.1 + 1)), x7))
      else
        some (.inr (s1.2))
    ) n (0, x3)).bind fun (rl1 : Str) =>
    some rl1

def impl_ParseFormula (n : Nat) (p0 : Str) : Option (D.Formula × Bool) :=
  (strings_Split p0 (⟨[124]⟩)).bind fun x1 =>
  (get? x1 0).bind fun x2 =>
  (impl_ParseInt x2).bind fun x3 =>
  if (!x3.2) then
    some ((D.Formula.mk 0 ([] : List (List Int))), false)
  else
    (cut? x1 1 (len x1)).bind fun x4 =>
    (iterN (fun (s1 : Int × (List (List Int))) =>
      if (decide (s1.1 < (len x4))) then
        (get? (vcut x1 1 (List.length x4)) s1.1).bind fun x5 =>
        (impl_ParseInts n x5).bind fun x6 =>
        if (!x6.2) then
          some (.inr (.inr ((D.Formula.mk 0 ([] : List (List Int))), false)))
        else
          (app? s1.2 ([x6.1] : List (List Int))).bind fun x7 =>
          some (.inl ((w64 (s1.1 + 1)), x7))
      else
        some (.inr (.inl (s1.2)))
    ) n (0, ([] : List (List Int)))).bind fun (rl1 : ((List (List Int))) ⊕ (D.Formula × Bool)) =>
    match rl1 with
    | .inl s1r =>
      (impl_FormulaOk n (D.Formula.mk x3.1 s1r)).bind fun x8 =>
      (if (!x8) then some default else (impl_FormatFormula n (D.Formula.mk x3.1 s1r))).bind fun x9 =>
      if ((!x8) || (!(Str.eqb x9 p0))) then
        some ((D.Formula.mk 0 ([] : List (List Int))), false)
      else
        some ((D.Formula.mk x3.1 s1r), true)
    | .inr v => some v

def laws_eqIntS (n : Nat) (p0 : List Int) (p1 : List Int) : Option Bool :=
  if ((len p0) != (len p1)) then
    some false
  else
    (iterN (fun (s1 : Int) =>
      if (decide (s1 < (len p0))) then
        (get? p0 s1).bind fun x1 =>
        (get? p1 s1).bind fun x2 =>
        if (x1 != x2) then
          some (.inr (.inr false))
        else
          some (.inl ((w64 (s1 + 1))))
      else
        some (.inr (.inl ()))
    ) n (0)).bind fun (rl1 : (Unit) ⊕ Bool) =>
    match rl1 with
    | .inl s1r =>
      some true
    | .inr v => some v

def laws_eqIntSS (n : Nat) (p0 : List (List Int)) (p1 : List (List Int)) : Option Bool :=
  if ((len p0) != (len p1)) then
    some false
  else
    (iterN (fun (s1 : Int) =>
      if (decide (s1 < (len p0))) then
        (get? p0 s1).bind fun x1 =>
        (get? p1 s1).bind fun x2 =>
        (laws_eqIntS n x1 x2).bind fun x3 =>
        if (!x3) then
          some (.inr (.inr false))
        else
          some (.inl ((w64 (s1 + 1))))
      else
        some (.inr (.inl ()))
    ) n (0)).bind fun (rl1 : (Unit) ⊕ Bool) =>
    match rl1 with
    | .inl s1r =>
      some true
    | .inr v => some v

def laws_eqFormula (n : Nat) (p0 : D.Formula) (p1 : D.Formula) : Option Bool :=
  if (p0.Vars != p1.Vars) then
    some false
  else
    (laws_eqIntSS n p0.Clauses p1.Clauses).bind fun x1 =>
    if (!x1) then
      some false
    else
      some true

def laws_markIntS (n : Nat) (p0 : List Int) (p1 : Int) : Option (Int × (List Int)) :=
  (iterN (fun (s1 : Int × Int × (List Int)) =>
    if (decide (s1.2.1 < (len p0))) then
      (set? s1.2.2 s1.2.1 s1.1).bind fun x1 =>
      some (.inl ((w64 (s1.1 + 1)), (w64 (s1.2.1 + 1)), x1))
    else
      some (.inr (s1.1, s1.2.2))
  ) n (p1, 0, p0)).bind fun (rl1 : Int × (List Int)) =>
  some (rl1.1, rl1.2)

def laws_markIntSS (n : Nat) (p0 : List (List Int)) (p1 : Int) : Option (Int × (List (List Int))) :=
  (iterN (fun (s1 : Int × Int × (List (List Int))) =>
    if (decide (s1.2.1 < (len p0))) then
      (get? s1.2.2 s1.2.1).bind fun x1 =>
      (laws_markIntS n x1 s1.1).bind fun x2 =>
      (set? s1.2.2 s1.2.1 x2.2).bind fun x3 =>
      some (.inl (x2.1, (w64 (s1.2.1 + 1)), x3))
    else
      some (.inr (s1.1, s1.2.2))
  ) n (p1, 0, p0)).bind fun (rl1 : Int × (List (List Int))) =>
  some (rl1.1, rl1.2)

def laws_markFormula (n : Nat) (p0 : D.Formula) (p1 : Int) : Option (Int × D.Formula) :=
  (laws_markIntSS n p0.Clauses p1).bind fun x1 =>
  some (x1.1, (D.Formula.mk p0.Vars x1.2))

def laws_heldIntS (n : Nat) (p0 : List Int) (p1 : Int) : Option Int :=
  (iterN (fun (s1 : Int × Int) =>
    if (decide (s1.2 < (len p0))) then
      (get? p0 s1.2).bind fun x1 =>
      if (x1 != s1.1) then
        some (.inr (.inr (-1)))
      else
        some (.inl ((w64 (s1.1 + 1)), (w64 (s1.2 + 1))))
    else
      some (.inr (.inl (s1.1)))
  ) n (p1, 0)).bind fun (rl1 : (Int) ⊕ Int) =>
  match rl1 with
  | .inl s1r =>
    some s1r
  | .inr v => some v

def laws_heldIntSS (n : Nat) (p0 : List (List Int)) (p1 : Int) : Option Int :=
  (iterN (fun (s1 : Int × Int) =>
    if (decide (s1.2 < (len p0))) then
      (get? p0 s1.2).bind fun x1 =>
      (laws_heldIntS n x1 s1.1).bind fun x2 =>
      if (decide (x2 < 0)) then
        some (.inr (.inr (-1)))
      else
        some (.inl (x2, (w64 (s1.2 + 1))))
    else
      some (.inr (.inl (s1.1)))
  ) n (p1, 0)).bind fun (rl1 : (Int) ⊕ Int) =>
  match rl1 with
  | .inl s1r =>
    some s1r
  | .inr v => some v

def laws_heldFormula (n : Nat) (p0 : D.Formula) (p1 : Int) : Option Int :=
  (laws_heldIntSS n p0.Clauses p1).bind fun x1 =>
  if (decide (x1 < 0)) then
    some (-1)
  else
    some x1

def laws_FnExactParseFormula (n : Nat) (p0 : Str) : Option Bool :=
  if (decide ((len p0.bytes) > 1048576)) then
    some true
  else
    (spec_ParseFormula n p0).bind fun x1 =>
    (impl_ParseFormula n p0).bind fun x2 =>
    (laws_eqFormula n x2.1 x1.1).bind fun x3 =>
    if ((!x3) || (!(x2.2 == x1.2))) then
      some false
    else
      (laws_markFormula n x2.1 1).bind fun x4 =>
      (laws_heldFormula n (D.Formula.mk x2.1.Vars x4.2.Clauses) 1).bind fun x5 =>
      if (decide (x5 < 0)) then
        some false
      else
        if (x5 != x4.1) then
          some false
        else
          (impl_ParseFormula n p0).bind fun x6 =>
          (laws_eqFormula n x6.1 x1.1).bind fun x7 =>
          if ((!x7) || (!(x6.2 == x1.2))) then
            some false
          else
            (laws_heldFormula n (D.Formula.mk x2.1.Vars x4.2.Clauses) 1).bind fun x8 =>
            if (decide (x8 < 0)) then
              some false
            else
              if (x8 != x4.1) then
                some false
              else
                some true
end Go.GL
