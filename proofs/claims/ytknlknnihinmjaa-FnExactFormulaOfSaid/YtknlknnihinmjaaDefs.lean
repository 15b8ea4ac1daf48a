/- Printed by gen2.py: Go functions as Lean functions. -/
import Derived.Test.YtknlknnihinmjaaGLp
set_option linter.unusedVariables false
namespace Go.GL
abbrev lstr0 : Str := ⟨[0, 1, 2, 2, 3, 3, 3, 3, 4, 4, 4, 4, 4, 4, 4, 4, 5, 5, 5, 5, 5, 5, 5, 5, 5, 5, 5, 5, 5, 5, 5, 5, 6, 6, 6, 6, 6, 6, 6, 6, 6, 6, 6, 6, 6, 6, 6, 6, 6, 6, 6, 6, 6, 6, 6, 6, 6, 6, 6, 6, 6, 6, 6, 6, 7, 7, 7, 7, 7, 7, 7, 7, 7, 7, 7, 7, 7, 7, 7, 7, 7, 7, 7, 7, 7, 7, 7, 7, 7, 7, 7, 7, 7, 7, 7, 7, 7, 7, 7, 7, 7, 7, 7, 7, 7, 7, 7, 7, 7, 7, 7, 7, 7, 7, 7, 7, 7, 7, 7, 7, 7, 7, 7, 7, 7, 7, 7, 7, 8, 8, 8, 8, 8, 8, 8, 8, 8, 8, 8, 8, 8, 8, 8, 8, 8, 8, 8, 8, 8, 8, 8, 8, 8, 8, 8, 8, 8, 8, 8, 8, 8, 8, 8, 8, 8, 8, 8, 8, 8, 8, 8, 8, 8, 8, 8, 8, 8, 8, 8, 8, 8, 8, 8, 8, 8, 8, 8, 8, 8, 8, 8, 8, 8, 8, 8, 8, 8, 8, 8, 8, 8, 8, 8, 8, 8, 8, 8, 8, 8, 8, 8, 8, 8, 8, 8, 8, 8, 8, 8, 8, 8, 8, 8, 8, 8, 8, 8, 8, 8, 8, 8, 8, 8, 8, 8, 8, 8, 8, 8, 8, 8, 8, 8, 8, 8, 8, 8, 8, 8, 8, 8, 8, 8, 8, 8, 8]⟩
def laws_szGateS (p0 : List D.Gate) (p1 : Int) : Option Int :=
  if (decide ((w64 (p1 - (len p0))) < 0)) then
    some (-1)
  else
    some (w64 (p1 - (len p0)))

def laws_szCircuit (p0 : D.Circuit) (p1 : Int) : Option Int :=
  (laws_szGateS p0.Gates p1).bind fun x1 =>
  if (decide (x1 < 0)) then
    some (-1)
  else
    some x1

def laws_toGate (p0 : D.Gate) : Option D.Gate :=
  some p0

def laws_toGateS (n : Nat) (p0 : List D.Gate) : Option (List D.Gate) :=
  (mk? (len p0) ((D.Gate.mk 0 0) : D.Gate)).bind fun x1 =>
  (iterN (fun (s1 : Int × (List D.Gate)) =>
    if (decide (s1.1 < (len p0))) then
      (get? p0 s1.1).bind fun x2 =>
      (laws_toGate x2).bind fun x3 =>
      (set? s1.2 s1.1 x3).bind fun x4 =>
      some (.inl ((w64 (s1.1 + 1)), x4))
    else
      some (.inr (s1.2))
  ) n (0, x1)).bind fun (rl1 : (List D.Gate)) =>
  some rl1

def laws_toCircuit (n : Nat) (p0 : D.Circuit) : Option D.Circuit :=
  (laws_toGateS n p0.Gates).bind fun x1 =>
  some (D.Circuit.mk p0.Inputs x1)

def spec_l01In (p0 : Int) (p1 : Int) (p2 : Int) : Option Bool :=
  some ((decide (p0 ≥ p1)) && (decide (p0 ≤ p2)))

def spec_l03Abs (p0 : Int) : Option Int :=
  if (decide (p0 < 0)) then
    some (w64 (0 - p0))
  else
    some p0

def spec_CircuitOk (n : Nat) (p0 : D.Circuit) : Option Bool :=
  (spec_l01In p0.Inputs 0 30).bind fun x1 =>
  if ((!x1) || (decide ((len p0.Gates) > 360))) then
    some false
  else
    (iterN (fun (s1 : Int) =>
      if (decide (s1 < (len p0.Gates))) then
        (get? p0.Gates s1).bind fun x2 =>
        (spec_l01In x2.A (w64 (0 - (w64 ((w64 (p0.Inputs + 1)) + s1)))) (w64 ((w64 (p0.Inputs + 1)) + s1))).bind fun x3 =>
        (if (!x3) then some default else (spec_l01In x2.B (w64 (0 - (w64 ((w64 (p0.Inputs + 1)) + s1)))) (w64 ((w64 (p0.Inputs + 1)) + s1)))).bind fun x4 =>
        (if ((!x3) || (!x4)) then some default else (spec_l03Abs x2.A)).bind fun x5 =>
        (if (((!x3) || (!x4)) || (decide (x5 < 2))) then some default else (spec_l03Abs x2.A)).bind fun x6 =>
        (if (((!x3) || (!x4)) || (decide (x5 < 2))) then some default else (spec_l03Abs x2.B)).bind fun x7 =>
        if ((((!x3) || (!x4)) || (decide (x5 < 2))) || (decide (x6 ≥ x7))) then
          some (.inr (.inr false))
        else
          (cut? p0.Gates 0 s1).bind fun x8 =>
          (iterN (fun (s2 : Int) =>
            if (decide (s2 < (len x8))) then
              (get? x8 s2).bind fun x9 =>
              if (decide (x2 = x9)) then
                some (.inr (.inr false))
              else
                some (.inl ((w64 (s2 + 1))))
            else
              some (.inr (.inl ()))
          ) n (0)).bind fun (rl2 : (Unit) ⊕ Bool) =>
          match rl2 with
          | .inl s2r =>
            some (.inl ((w64 (s1 + 1))))
          | .inr v => some (.inr (.inr v))
      else
        some (.inr (.inl ()))
    ) n (0)).bind fun (rl1 : (Unit) ⊕ Bool) =>
    match rl1 with
    | .inl s1r =>
      some true
    | .inr v => some v

def spec_l03Lits (n : Nat) (p0 : List Int) (p1 : Int) : Option Bool :=
  (iterN (fun (s1 : Int) =>
    if (decide (s1 < (len p0))) then
      (get? p0 s1).bind fun x1 =>
      (if (x1 == 0) then some default else (spec_l01In x1 (w64 (0 - p1)) p1)).bind fun x2 =>
      if ((x1 == 0) || (!x2)) then
        some (.inr (.inr false))
      else
        some (.inl ((w64 (s1 + 1))))
    else
      some (.inr (.inl ()))
  ) n (0)).bind fun (rl1 : (Unit) ⊕ Bool) =>
  match rl1 with
  | .inl s1r =>
    some true
  | .inr v => some v

def spec_l04Lits (n : Nat) (p0 : D.Circuit) (p1 : List Int) : Option Bool :=
  (spec_l03Lits n p1 (w64 ((w64 (p0.Inputs + 1)) + (len p0.Gates)))).bind fun x1 =>
  some x1

def spec_MakeClause (n : Nat) (p0 : List Int) : Option ((List Int) × Bool) :=
  (iterN (fun (s1 : Int × (List Int)) =>
    if (decide (s1.1 < (len p0))) then
      (get? p0 s1.1).bind fun x1 =>
      (if (x1 == 0) then some default else (spec_l01In x1 (-400) 400)).bind fun x2 =>
      if ((x1 == 0) || (!x2)) then
        some (.inr (.inr (([] : List Int), false)))
      else
        (iterN (fun (s2 : Int) =>
          (if (decide (s2 < (len s1.2))) then (get? s1.2 s2) else some default).bind fun x3 =>
          (if (decide (s2 < (len s1.2))) then (spec_l03Abs x3) else some default).bind fun x4 =>
          (if (decide (s2 < (len s1.2))) then (spec_l03Abs x1) else some default).bind fun x5 =>
          if ((decide (s2 < (len s1.2))) && (decide (x4 < x5))) then
            some (.inl ((w64 (s2 + 1))))
          else
            some (.inr (s2))
        ) n (0)).bind fun (rl2 : Int) =>
        (if (decide (rl2 < (len s1.2))) then (get? s1.2 rl2) else some default).bind fun x6 =>
        if ((decide (rl2 < (len s1.2))) && (x6 == x1)) then
          some (.inl ((w64 (s1.1 + 1)), s1.2))
        else
          (if (decide (rl2 < (len s1.2))) then (get? s1.2 rl2) else some default).bind fun x7 =>
          if ((decide (rl2 < (len s1.2))) && (x7 == (w64 (0 - x1)))) then
            some (.inr (.inr (([] : List Int), false)))
          else
            (cut? s1.2 0 rl2).bind fun x8 =>
            (app? ([] : List Int) (vcut s1.2 0 (List.length x8))).bind fun x9 =>
            (app? x9 ([x1] : List Int)).bind fun x10 =>
            (cut? s1.2 rl2 (len s1.2)).bind fun x11 =>
            (app? x10 (vcut s1.2 rl2 (List.length x11))).bind fun x12 =>
            some (.inl ((w64 (s1.1 + 1)), x12))
    else
      some (.inr (.inl (s1.2)))
  ) n (0, ([] : List Int))).bind fun (rl1 : ((List Int)) ⊕ ((List Int) × Bool)) =>
  match rl1 with
  | .inl s1r =>
    some (s1r, true)
  | .inr v => some v

def spec_FormulaOf (n : Nat) (p0 : D.Circuit) (p1 : Int) : Option (D.Formula × Bool) :=
  (spec_CircuitOk n p0).bind fun x1 =>
  (if (!x1) then some default else (spec_l04Lits n p0 ([p1] : List Int))).bind fun x2 =>
  if ((!x1) || (!x2)) then
    some ((D.Formula.mk 0 ([] : List (List Int))), false)
  else
    (iterN (fun (s1 : Int × (List (List Int))) =>
      if (decide (s1.1 < (len p0.Gates))) then
        (get? p0.Gates s1.1).bind fun x3 =>
        (iterN (fun (s2 : Int × (List (List Int))) =>
          if (decide (s2.1 < (len ([([(w64 (0 - (w64 ((w64 (p0.Inputs + 2)) + s1.1)))), x3.A] : List Int), ([(w64 (0 - (w64 ((w64 (p0.Inputs + 2)) + s1.1)))), x3.B] : List Int), ([(w64 ((w64 (p0.Inputs + 2)) + s1.1)), (w64 (0 - x3.A)), (w64 (0 - x3.B))] : List Int)] : List (List Int))))) then
            (get? ([([(w64 (0 - (w64 ((w64 (p0.Inputs + 2)) + s1.1)))), x3.A] : List Int), ([(w64 (0 - (w64 ((w64 (p0.Inputs + 2)) + s1.1)))), x3.B] : List Int), ([(w64 ((w64 (p0.Inputs + 2)) + s1.1)), (w64 (0 - x3.A)), (w64 (0 - x3.B))] : List Int)] : List (List Int)) s2.1).bind fun x4 =>
            (spec_MakeClause n x4).bind fun x5 =>
            (app? s2.2 ([x5.1] : List (List Int))).bind fun x6 =>
            some (.inl ((w64 (s2.1 + 1)), x6))
          else
            some (.inr (s2.2))
        ) n (0, s1.2)).bind fun (rl2 : (List (List Int))) =>
        some (.inl ((w64 (s1.1 + 1)), rl2))
      else
        some (.inr (s1.2))
    ) n (0, ([([1] : List Int)] : List (List Int)))).bind fun (rl1 : (List (List Int))) =>
    (app? rl1 ([([p1] : List Int)] : List (List Int))).bind fun x7 =>
    some ((D.Formula.mk (w64 ((w64 (p0.Inputs + 1)) + (len p0.Gates))) x7), true)

def impl_isLiteral (p0 : Int) (p1 : Int) : Option Bool :=
  some (((p0 != 0) && (decide (p0 ≥ (w64 (0 - p1))))) && (decide (p0 ≤ p1)))

def impl_varOf (p0 : Int) : Option Int :=
  if (decide (p0 < 0)) then
    some (w64 (0 - p0))
  else
    some p0

def impl_CircuitOk (n : Nat) (p0 : D.Circuit) : Option Bool :=
  if (((decide (p0.Inputs < 0)) || (decide (p0.Inputs > 30))) || (decide ((len p0.Gates) > 360))) then
    some false
  else
    (iterN (fun (s1 : Int × (List (D.Gate × Bool))) =>
      if (decide (s1.1 < (len p0.Gates))) then
        (get? p0.Gates s1.1).bind fun x1 =>
        (impl_isLiteral x1.A (w64 ((w64 (1 + p0.Inputs)) + s1.1))).bind fun x2 =>
        (if (!x2) then some default else (impl_isLiteral x1.B (w64 ((w64 (1 + p0.Inputs)) + s1.1)))).bind fun x3 =>
        (if ((!x2) || (!x3)) then some default else (mget? fitK_Gate (false : Bool) s1.2 x1)).bind fun x4 =>
        if (((!x2) || (!x3)) || x4) then
          some (.inr (.inr false))
        else
          (impl_varOf x1.A).bind fun x5 =>
          (if (decide (x5 < 2)) then some default else (impl_varOf x1.A)).bind fun x6 =>
          (if (decide (x5 < 2)) then some default else (impl_varOf x1.B)).bind fun x7 =>
          if ((decide (x5 < 2)) || (decide (x6 ≥ x7))) then
            some (.inr (.inr false))
          else
            (mput? fitK_Gate s1.2 x1 true).bind fun x8 =>
            some (.inl ((w64 (s1.1 + 1)), x8))
      else
        some (.inr (.inl ()))
    ) n (0, [])).bind fun (rl1 : (Unit) ⊕ Bool) =>
    match rl1 with
    | .inl s1r =>
      some true
    | .inr v => some v

def impl_linesOf (p0 : D.Circuit) : Option Int :=
  some (w64 ((w64 (1 + p0.Inputs)) + (len p0.Gates)))

def impl_literalsOk (n : Nat) (p0 : List Int) (p1 : Int) : Option Bool :=
  (iterN (fun (s1 : Int) =>
    if (decide (s1 < (len p0))) then
      (get? p0 s1).bind fun x1 =>
      (impl_isLiteral x1 p1).bind fun x2 =>
      if (!x2) then
        some (.inr (.inr false))
      else
        some (.inl ((w64 (s1 + 1))))
    else
      some (.inr (.inl ()))
  ) n (0)).bind fun (rl1 : (Unit) ⊕ Bool) =>
  match rl1 with
  | .inl s1r =>
    some true
  | .inr v => some v

def slices_Clone___int_int_ (p0 : List Int) : Option (List Int) :=
  (app? ([] : List Int) p0).bind fun x1 =>
  some x1

def math_bits_Len64 (p0 : Int) : Option Int :=
  if (decide (p0 ≥ 4294967296)) then
    (shrK? .u64 p0 32).bind fun x1 =>
    if (decide (x1 ≥ 65536)) then
      (shrK? .u64 x1 16).bind fun x2 =>
      if (decide (x2 ≥ 256)) then
        (shrK? .u64 x2 8).bind fun x3 =>
        (sidx? lstr0 (IntKind.u8.wrap x3)).bind fun x4 =>
        some (w64 ((w64 ((w64 (32 + 16)) + 8)) + (w64 x4)))
      else
        (sidx? lstr0 (IntKind.u8.wrap x2)).bind fun x5 =>
        some (w64 ((w64 (32 + 16)) + (w64 x5)))
    else
      if (decide (x1 ≥ 256)) then
        (shrK? .u64 x1 8).bind fun x6 =>
        (sidx? lstr0 (IntKind.u8.wrap x6)).bind fun x7 =>
        some (w64 ((w64 (32 + 8)) + (w64 x7)))
      else
        (sidx? lstr0 (IntKind.u8.wrap x1)).bind fun x8 =>
        some (w64 (32 + (w64 x8)))
  else
    if (decide (p0 ≥ 65536)) then
      (shrK? .u64 p0 16).bind fun x9 =>
      if (decide (x9 ≥ 256)) then
        (shrK? .u64 x9 8).bind fun x10 =>
        (sidx? lstr0 (IntKind.u8.wrap x10)).bind fun x11 =>
        some (w64 ((w64 ((w64 (0 + 16)) + 8)) + (w64 x11)))
      else
        (sidx? lstr0 (IntKind.u8.wrap x9)).bind fun x12 =>
        some (w64 ((w64 (0 + 16)) + (w64 x12)))
    else
      if (decide (p0 ≥ 256)) then
        (shrK? .u64 p0 8).bind fun x13 =>
        (sidx? lstr0 (IntKind.u8.wrap x13)).bind fun x14 =>
        some (w64 ((w64 (0 + 8)) + (w64 x14)))
      else
        (sidx? lstr0 (IntKind.u8.wrap p0)).bind fun x15 =>
        some (w64 (0 + (w64 x15)))

def math_bits_Len (p0 : Int) : Option Int :=
  if false then
    none
  else
    (math_bits_Len64 p0).bind fun x1 =>
    some x1

def cmp_isNaN_int_ (p0 : Int) : Option Bool :=
  some (p0 != p0)

def cmp_Compare_int_ (p0 : Int) (p1 : Int) : Option Int :=
  (cmp_isNaN_int_ p0).bind fun x1 =>
  (cmp_isNaN_int_ p1).bind fun x2 =>
  if x1 then
    if x2 then
      some 0
    else
      some (-1)
  else
    if x2 then
      some 1
    else
      if (decide (p0 < p1)) then
        some (-1)
      else
        if (decide (p0 > p1)) then
          some 1
        else
          some 0

def impl_MakeClause_1 (p0 : Int) (p1 : Int) : Option Int :=
  (impl_varOf p0).bind fun x1 =>
  (impl_varOf p1).bind fun x2 =>
  (cmp_Compare_int_ x1 x2).bind fun x3 =>
  if (x3 != 0) then
    some x3
  else
    (cmp_Compare_int_ p0 p1).bind fun x4 =>
    some x4

def slices_Compact___int_int_ (n : Nat) (p0 : List Int) : Option (List Int) :=
  if (decide ((len p0) < 2)) then
    some p0
  else
    (iterN (fun (s1 : Int) =>
      if (decide (s1 < (len p0))) then
        (get? p0 s1).bind fun x1 =>
        (get? p0 (w64 (s1 - 1))).bind fun x2 =>
        if (x1 == x2) then
          (cut? p0 s1 (len p0)).bind fun x3 =>
          (iterN (fun (s2 : Int × Int × (List Int)) =>
            if (decide (s2.2.1 < (len x3))) then
              (get? (vcut s2.2.2 s1 (List.length x3)) s2.2.1).bind fun x4 =>
              (get? (vcut s2.2.2 s1 (List.length x3)) (w64 (s2.2.1 - 1))).bind fun x5 =>
              if (x4 != x5) then
                (get? (vcut s2.2.2 s1 (List.length x3)) s2.2.1).bind fun x6 =>
                (set? s2.2.2 s2.1 x6).bind fun x7 =>
                some (.inl ((w64 (s2.1 + 1)), (w64 (s2.2.1 + 1)), x7))
              else
                some (.inl (s2.1, (w64 (s2.2.1 + 1)), s2.2.2))
            else
              some (.inr (s2.1, s2.2.2))
          ) n (s1, 1, p0)).bind fun (rl2 : Int × (List Int)) =>
          (cut? rl2.2 rl2.1 (len p0)).bind fun x8 =>
          (cut? (vclear 0 rl2.2 rl2.1 (List.length x8)) 0 rl2.1).bind fun x9 =>
          some (.inr (.inr x9))
        else
          some (.inl ((w64 (s1 + 1))))
      else
        some (.inr (.inl ()))
    ) n (1)).bind fun (rl1 : (Unit) ⊕ (List Int)) =>
    match rl1 with
    | .inl s1r =>
      some p0
    | .inr v => some v

def impl_clauseOk (n : Nat) (p0 : List Int) (p1 : Int) : Option Bool :=
  (impl_literalsOk n p0 p1).bind fun x1 =>
  if (!x1) then
    some false
  else
    (iterN (fun (s1 : Int) =>
      if (decide (s1 < (len p0))) then
        (get? p0 (w64 (s1 - 1))).bind fun x2 =>
        (impl_varOf x2).bind fun x3 =>
        (get? p0 s1).bind fun x4 =>
        (impl_varOf x4).bind fun x5 =>
        if (decide (x3 ≥ x5)) then
          some (.inr (.inr false))
        else
          some (.inl ((w64 (s1 + 1))))
      else
        some (.inr (.inl ()))
    ) n (1)).bind fun (rl1 : (Unit) ⊕ Bool) =>
    match rl1 with
    | .inl s1r =>
      some true
    | .inr v => some v

def slices_insertionSortCmpFunc_int___impl_MakeClause_1 (n : Nat) (p0 : List Int) (p1 : Int) (p2 : Int) : Option (List Int) :=
  (iterN (fun (s1 : Int × (List Int)) =>
    if (decide (s1.1 < p2)) then
      (iterN (fun (s2 : Int × (List Int)) =>
        (if (decide (s2.1 > p1)) then (get? s2.2 s2.1) else some default).bind fun x1 =>
        (if (decide (s2.1 > p1)) then (get? s2.2 (w64 (s2.1 - 1))) else some default).bind fun x2 =>
        (if (decide (s2.1 > p1)) then (impl_MakeClause_1 x1 x2) else some default).bind fun x3 =>
        if ((decide (s2.1 > p1)) && (decide (x3 < 0))) then
          (get? s2.2 (w64 (s2.1 - 1))).bind fun x4 =>
          (get? s2.2 s2.1).bind fun x5 =>
          (set? s2.2 s2.1 x4).bind fun x6 =>
          (set? x6 (w64 (s2.1 - 1)) x5).bind fun x7 =>
          some (.inl ((w64 (s2.1 - 1)), x7))
        else
          some (.inr (s2.2))
      ) n (s1.1, s1.2)).bind fun (rl2 : (List Int)) =>
      some (.inl ((w64 (s1.1 + 1)), rl2))
    else
      some (.inr (s1.2))
  ) n ((w64 (p1 + 1)), p0)).bind fun (rl1 : (List Int)) =>
  some rl1

def slices_pdqsortCmpFunc_int___impl_MakeClause_1 (n : Nat) (p0 : List Int) (p1 : Int) (p2 : Int) (p3 : Int) : Option (List Int) :=
  (iterN (fun (s1 : Int × Int × Int × Bool × Bool) =>
    if (decide ((w64 (s1.2.1 - s1.1)) ≤ 12)) then
      (slices_insertionSortCmpFunc_int___impl_MakeClause_1 n p0 s1.1 s1.2.1).bind fun x1 =>
      some (.inr (.inr x1))
    else
      if (s1.2.2.1 == 0) then
        none
      else
        if (!s1.2.2.2.1) then
          none
        else
          none
  ) n (p1, p2, p3, true, true)).bind fun (rl1 : (Unit) ⊕ (List Int)) =>
  match rl1 with
  | .inl s1r =>
    some p0
  | .inr v => some v

def slices_SortFunc___int_int___impl_MakeClause_1 (n : Nat) (p0 : List Int) : Option (List Int) :=
  (math_bits_Len (IntKind.u64.wrap (len p0))).bind fun x1 =>
  (slices_pdqsortCmpFunc_int___impl_MakeClause_1 n p0 0 (len p0) x1).bind fun x2 =>
  some x2

def impl_MakeClause (n : Nat) (p0 : List Int) : Option ((List Int) × Bool) :=
  (impl_literalsOk n p0 400).bind fun x1 =>
  if (!x1) then
    some (([] : List Int), false)
  else
    (slices_Clone___int_int_ p0).bind fun x2 =>
    (slices_SortFunc___int_int___impl_MakeClause_1 n x2).bind fun x3 =>
    (slices_Compact___int_int_ n x3).bind fun x4 =>
    (impl_clauseOk n x4 400).bind fun x5 =>
    if (!x5) then
      some (([] : List Int), false)
    else
      some (x4, true)

def impl_FormulaOf (n : Nat) (p0 : D.Circuit) (p1 : Int) : Option (D.Formula × Bool) :=
  (impl_CircuitOk n p0).bind fun x1 =>
  (if (!x1) then some default else (impl_linesOf p0)).bind fun x2 =>
  (if (!x1) then some default else (impl_isLiteral p1 x2)).bind fun x3 =>
  if ((!x1) || (!x3)) then
    some ((D.Formula.mk 0 ([] : List (List Int))), false)
  else
    (impl_linesOf p0).bind fun x4 =>
    (iterN (fun (s1 : Int × (List (List Int))) =>
      if (decide (s1.1 < (len p0.Gates))) then
        (get? p0.Gates s1.1).bind fun x5 =>
        (iterN (fun (s2 : Int × (List (List Int))) =>
          if (decide (s2.1 < (len ([([(w64 (0 - (w64 ((w64 (2 + p0.Inputs)) + s1.1)))), x5.A] : List Int), ([(w64 (0 - (w64 ((w64 (2 + p0.Inputs)) + s1.1)))), x5.B] : List Int), ([(w64 ((w64 (2 + p0.Inputs)) + s1.1)), (w64 (0 - x5.A)), (w64 (0 - x5.B))] : List Int)] : List (List Int))))) then
            (get? ([([(w64 (0 - (w64 ((w64 (2 + p0.Inputs)) + s1.1)))), x5.A] : List Int), ([(w64 (0 - (w64 ((w64 (2 + p0.Inputs)) + s1.1)))), x5.B] : List Int), ([(w64 ((w64 (2 + p0.Inputs)) + s1.1)), (w64 (0 - x5.A)), (w64 (0 - x5.B))] : List Int)] : List (List Int)) s2.1).bind fun x6 =>
            (impl_MakeClause n x6).bind fun x7 =>
            (app? s2.2 ([x7.1] : List (List Int))).bind fun x8 =>
            some (.inl ((w64 (s2.1 + 1)), x8))
          else
            some (.inr (s2.2))
        ) n (0, s1.2)).bind fun (rl2 : (List (List Int))) =>
        some (.inl ((w64 (s1.1 + 1)), rl2))
      else
        some (.inr (s1.2))
    ) n (0, ([([1] : List Int)] : List (List Int)))).bind fun (rl1 : (List (List Int))) =>
    (app? rl1 ([([p1] : List Int)] : List (List Int))).bind fun x9 =>
    some ((D.Formula.mk x4 x9), true)

def laws_eqIntS (n : Nat) (p0 : List Int) (p1 : List Int) : Option Bool :=
  if ((len p0) != (len p1)) then
    some false
  else
    (iterN (fun (s1 : Int) =>
      if (decide (s1 < (len p0))) then
        (get? p0 s1).bind fun x1 =>
        (get? p1 s1).bind fun x2 =>
        if (x1 != x2) then
          some (.inr (.inr false))
        else
          some (.inl ((w64 (s1 + 1))))
      else
        some (.inr (.inl ()))
    ) n (0)).bind fun (rl1 : (Unit) ⊕ Bool) =>
    match rl1 with
    | .inl s1r =>
      some true
    | .inr v => some v

def laws_eqIntSS (n : Nat) (p0 : List (List Int)) (p1 : List (List Int)) : Option Bool :=
  if ((len p0) != (len p1)) then
    some false
  else
    (iterN (fun (s1 : Int) =>
      if (decide (s1 < (len p0))) then
        (get? p0 s1).bind fun x1 =>
        (get? p1 s1).bind fun x2 =>
        (laws_eqIntS n x1 x2).bind fun x3 =>
        if (!x3) then
          some (.inr (.inr false))
        else
          some (.inl ((w64 (s1 + 1))))
      else
        some (.inr (.inl ()))
    ) n (0)).bind fun (rl1 : (Unit) ⊕ Bool) =>
    match rl1 with
    | .inl s1r =>
      some true
    | .inr v => some v

def laws_eqFormula (n : Nat) (p0 : D.Formula) (p1 : D.Formula) : Option Bool :=
  if (p0.Vars != p1.Vars) then
    some false
  else
    (laws_eqIntSS n p0.Clauses p1.Clauses).bind fun x1 =>
    if (!x1) then
      some false
    else
      some true

def laws_eqGate (p0 : D.Gate) (p1 : D.Gate) : Option Bool :=
  if (p0.A != p1.A) then
    some false
  else
    if (p0.B != p1.B) then
      some false
    else
      some true

def laws_eqGateS (n : Nat) (p0 : List D.Gate) (p1 : List D.Gate) : Option Bool :=
  if ((len p0) != (len p1)) then
    some false
  else
    (iterN (fun (s1 : Int) =>
      if (decide (s1 < (len p0))) then
        (get? p0 s1).bind fun x1 =>
        (get? p1 s1).bind fun x2 =>
        (laws_eqGate x1 x2).bind fun x3 =>
        if (!x3) then
          some (.inr (.inr false))
        else
          some (.inl ((w64 (s1 + 1))))
      else
        some (.inr (.inl ()))
    ) n (0)).bind fun (rl1 : (Unit) ⊕ Bool) =>
    match rl1 with
    | .inl s1r =>
      some true
    | .inr v => some v

def laws_eqCircuit (n : Nat) (p0 : D.Circuit) (p1 : D.Circuit) : Option Bool :=
  if (p0.Inputs != p1.Inputs) then
    some false
  else
    (laws_eqGateS n p0.Gates p1.Gates).bind fun x1 =>
    if (!x1) then
      some false
    else
      some true

def laws_markGateS (n : Nat) (p0 : List D.Gate) (p1 : Int) : Option (Int × (List D.Gate)) :=
  (iterN (fun (s1 : Int × Int × (List D.Gate)) =>
    if (decide (s1.2.1 < (len p0))) then
      (get? s1.2.2 s1.2.1).bind fun x1 =>
      (set? s1.2.2 s1.2.1 ({ x1 with A := s1.1 } : D.Gate)).bind fun x2 =>
      (get? x2 s1.2.1).bind fun x3 =>
      (set? x2 s1.2.1 ({ x3 with B := (w64 (s1.1 + 1)) } : D.Gate)).bind fun x4 =>
      some (.inl ((w64 ((w64 (s1.1 + 1)) + 1)), (w64 (s1.2.1 + 1)), x4))
    else
      some (.inr (s1.1, s1.2.2))
  ) n (p1, 0, p0)).bind fun (rl1 : Int × (List D.Gate)) =>
  some (rl1.1, rl1.2)

def laws_markCircuit (n : Nat) (p0 : D.Circuit) (p1 : Int) : Option (Int × D.Circuit) :=
  (laws_markGateS n p0.Gates p1).bind fun x1 =>
  some (x1.1, (D.Circuit.mk p0.Inputs x1.2))

def laws_markIntS (n : Nat) (p0 : List Int) (p1 : Int) : Option (Int × (List Int)) :=
  (iterN (fun (s1 : Int × Int × (List Int)) =>
    if (decide (s1.2.1 < (len p0))) then
      (set? s1.2.2 s1.2.1 s1.1).bind fun x1 =>
      some (.inl ((w64 (s1.1 + 1)), (w64 (s1.2.1 + 1)), x1))
    else
      some (.inr (s1.1, s1.2.2))
  ) n (p1, 0, p0)).bind fun (rl1 : Int × (List Int)) =>
  some (rl1.1, rl1.2)

def laws_markIntSS (n : Nat) (p0 : List (List Int)) (p1 : Int) : Option (Int × (List (List Int))) :=
  (iterN (fun (s1 : Int × Int × (List (List Int))) =>
    if (decide (s1.2.1 < (len p0))) then
      (get? s1.2.2 s1.2.1).bind fun x1 =>
      (laws_markIntS n x1 s1.1).bind fun x2 =>
      (set? s1.2.2 s1.2.1 x2.2).bind fun x3 =>
      some (.inl (x2.1, (w64 (s1.2.1 + 1)), x3))
    else
      some (.inr (s1.1, s1.2.2))
  ) n (p1, 0, p0)).bind fun (rl1 : Int × (List (List Int))) =>
  some (rl1.1, rl1.2)

def laws_markFormula (n : Nat) (p0 : D.Formula) (p1 : Int) : Option (Int × D.Formula) :=
  (laws_markIntSS n p0.Clauses p1).bind fun x1 =>
  some (x1.1, (D.Formula.mk p0.Vars x1.2))

def laws_heldIntS (n : Nat) (p0 : List Int) (p1 : Int) : Option Int :=
  (iterN (fun (s1 : Int × Int) =>
    if (decide (s1.2 < (len p0))) then
      (get? p0 s1.2).bind fun x1 =>
      if (x1 != s1.1) then
        some (.inr (.inr (-1)))
      else
        some (.inl ((w64 (s1.1 + 1)), (w64 (s1.2 + 1))))
    else
      some (.inr (.inl (s1.1)))
  ) n (p1, 0)).bind fun (rl1 : (Int) ⊕ Int) =>
  match rl1 with
  | .inl s1r =>
    some s1r
  | .inr v => some v

def laws_heldIntSS (n : Nat) (p0 : List (List Int)) (p1 : Int) : Option Int :=
  (iterN (fun (s1 : Int × Int) =>
    if (decide (s1.2 < (len p0))) then
      (get? p0 s1.2).bind fun x1 =>
      (laws_heldIntS n x1 s1.1).bind fun x2 =>
      if (decide (x2 < 0)) then
        some (.inr (.inr (-1)))
      else
        some (.inl (x2, (w64 (s1.2 + 1))))
    else
      some (.inr (.inl (s1.1)))
  ) n (p1, 0)).bind fun (rl1 : (Int) ⊕ Int) =>
  match rl1 with
  | .inl s1r =>
    some s1r
  | .inr v => some v

def laws_heldFormula (n : Nat) (p0 : D.Formula) (p1 : Int) : Option Int :=
  (laws_heldIntSS n p0.Clauses p1).bind fun x1 =>
  if (decide (x1 < 0)) then
    some (-1)
  else
    some x1

def laws_FnExactFormulaOf (n : Nat) (p0 : D.Circuit) (p1 : Int) : Option Bool :=
  (laws_szCircuit p0 1048576).bind fun x1 =>
  if (decide (x1 < 0)) then
    some true
  else
    (laws_toCircuit n p0).bind fun x2 =>
    (spec_FormulaOf n x2 p1).bind fun x3 =>
    (laws_toCircuit n p0).bind fun x4 =>
    (impl_FormulaOf n x4 p1).bind fun x5 =>
    (laws_eqFormula n x5.1 x3.1).bind fun x6 =>
    if ((!x6) || (!(x5.2 == x3.2))) then
      some false
    else
      (laws_toCircuit n p0).bind fun x7 =>
      (laws_eqCircuit n x4 x7).bind fun x8 =>
      if (!x8) then
        some false
      else
        (laws_markCircuit n x4 1).bind fun x9 =>
        (if (decide (x9.1 < 0)) then some default else (laws_eqFormula n x5.1 x3.1)).bind fun x10 =>
        if (((decide (x9.1 < 0)) || (!x10)) || (!(x5.2 == x3.2))) then
          some false
        else
          (laws_markFormula n x5.1 1).bind fun x11 =>
          (laws_heldFormula n (D.Formula.mk x5.1.Vars x11.2.Clauses) 1).bind fun x12 =>
          if (decide (x12 < 0)) then
            some false
          else
            if (x12 != x11.1) then
              some false
            else
              (laws_toCircuit n p0).bind fun x13 =>
              (impl_FormulaOf n x13 p1).bind fun x14 =>
              (laws_eqFormula n x14.1 x3.1).bind fun x15 =>
              if ((!x15) || (!(x14.2 == x3.2))) then
                some false
              else
                (laws_heldFormula n (D.Formula.mk x5.1.Vars x11.2.Clauses) 1).bind fun x16 =>
                if (decide (x16 < 0)) then
                  some false
                else
                  if (x16 != x11.1) then
                    some false
                  else
                    some true
end Go.GL
