/- Printed by gen2.py: Go functions as Lean functions. -/
import Derived.Test.YtknlknnihinmjaaGLp
set_option linter.unusedVariables false
namespace Go.GL
def laws_szInsS (p0 : List D.Ins) (p1 : Int) : Option Int :=
  if (decide ((w64 (p1 - (len p0))) < 0)) then
    some (-1)
  else
    some (w64 (p1 - (len p0)))

def laws_szProgram (p0 : D.Program) (p1 : Int) : Option Int :=
  (laws_szInsS p0.Code p1).bind fun x1 =>
  if (decide (x1 < 0)) then
    some (-1)
  else
    some x1

def laws_toIns (p0 : D.Ins) : Option D.Ins :=
  some p0

def laws_toInsS (n : Nat) (p0 : List D.Ins) : Option (List D.Ins) :=
  (mk? (len p0) ((D.Ins.mk 0 0 0 0) : D.Ins)).bind fun x1 =>
  (iterN (fun (s1 : Int × (List D.Ins)) =>
    if (decide (s1.1 < (len p0))) then
      (get? p0 s1.1).bind fun x2 =>
      (laws_toIns x2).bind fun x3 =>
      (set? s1.2 s1.1 x3).bind fun x4 =>
      some (.inl ((w64 (s1.1 + 1)), x4))
    else
      some (.inr (s1.2))
  ) n (0, x1)).bind fun (rl1 : (List D.Ins)) =>
  some rl1

def laws_toProgram (n : Nat) (p0 : D.Program) : Option D.Program :=
  (laws_toInsS n p0.Code).bind fun x1 =>
  some (D.Program.mk p0.W p0.Mem p0.In x1)

def spec_l01In (p0 : Int) (p1 : Int) (p2 : Int) : Option Bool :=
  some ((decide (p0 ≥ p1)) && (decide (p0 ≤ p2)))

def spec_WordOk (p0 : Int) (p1 : Int) : Option Bool :=
  (spec_l01In p0 1 16).bind fun x1 =>
  (if x1 then (shl? 1 p0) else some default).bind fun x2 =>
  (if x1 then (spec_l01In p1 0 (w64 (x2 - 1))) else some default).bind fun x3 =>
  some (x1 && x3)

def spec_l05Reg (p0 : Int) : Option Bool :=
  (spec_l01In p0 0 3).bind fun x1 =>
  some x1

def spec_l05Ins (p0 : D.Ins) (p1 : Int) (p2 : Int) : Option Bool :=
  (spec_l01In p0.B 0 p2).bind fun x1 =>
  if (p0.Op == 1) then
    (spec_l05Reg p0.A).bind fun x2 =>
    (if x2 then (spec_WordOk p1 p0.B) else some default).bind fun x3 =>
    some ((x2 && x3) && (p0.C == 0))
  else
    if (p0.Op == 2) then
      if (p0.Op == 2) then
        (spec_l05Reg p0.A).bind fun x4 =>
        (if x4 then (spec_l05Reg p0.B) else some default).bind fun x5 =>
        some ((x4 && x5) && (p0.C == 0))
      else
        if (p0.Op == 3) then
          (spec_l05Reg p0.A).bind fun x6 =>
          (if x6 then (spec_l05Reg p0.B) else some default).bind fun x7 =>
          (if (x6 && x7) then (spec_l01In p0.C 3 16) else some default).bind fun x8 =>
          some ((x6 && x7) && x8)
        else
          if (p0.Op == 4) then
            if (p0.Op == 4) then
              (spec_l05Reg p0.A).bind fun x9 =>
              some ((x9 && (p0.B == 0)) && (p0.C == 0))
            else
              if ((p0.Op == 9) || (p0.Op == 11)) then
                some (((p0.A == 0) && x1) && (p0.C == 0))
              else
                if (p0.Op == 10) then
                  (spec_l05Reg p0.A).bind fun x10 =>
                  some ((x10 && x1) && (p0.C == 0))
                else
                  if ((p0.Op == 12) || (p0.Op == 14)) then
                    some (((p0.A == 0) && (p0.B == 0)) && (p0.C == 0))
                  else
                    some false
          else
            if (p0.Op == 5) then
              if (p0.Op == 5) then
                (spec_l05Reg p0.A).bind fun x11 =>
                some ((x11 && (p0.B == 0)) && (p0.C == 0))
              else
                if ((p0.Op == 9) || (p0.Op == 11)) then
                  some (((p0.A == 0) && x1) && (p0.C == 0))
                else
                  if (p0.Op == 10) then
                    (spec_l05Reg p0.A).bind fun x12 =>
                    some ((x12 && x1) && (p0.C == 0))
                  else
                    if ((p0.Op == 12) || (p0.Op == 14)) then
                      some (((p0.A == 0) && (p0.B == 0)) && (p0.C == 0))
                    else
                      some false
            else
              if ((p0.Op == 6) || (p0.Op == 13)) then
                (spec_l05Reg p0.A).bind fun x13 =>
                some ((x13 && (p0.B == 0)) && (p0.C == 0))
              else
                if ((p0.Op == 9) || (p0.Op == 11)) then
                  some (((p0.A == 0) && x1) && (p0.C == 0))
                else
                  if (p0.Op == 10) then
                    (spec_l05Reg p0.A).bind fun x14 =>
                    some ((x14 && x1) && (p0.C == 0))
                  else
                    if ((p0.Op == 12) || (p0.Op == 14)) then
                      some (((p0.A == 0) && (p0.B == 0)) && (p0.C == 0))
                    else
                      some false
    else
      if ((p0.Op == 7) || (p0.Op == 8)) then
        (spec_l05Reg p0.A).bind fun x15 =>
        (if x15 then (spec_l05Reg p0.B) else some default).bind fun x16 =>
        some ((x15 && x16) && (p0.C == 0))
      else
        if (p0.Op == 3) then
          (spec_l05Reg p0.A).bind fun x17 =>
          (if x17 then (spec_l05Reg p0.B) else some default).bind fun x18 =>
          (if (x17 && x18) then (spec_l01In p0.C 3 16) else some default).bind fun x19 =>
          some ((x17 && x18) && x19)
        else
          if (p0.Op == 4) then
            if (p0.Op == 4) then
              (spec_l05Reg p0.A).bind fun x20 =>
              some ((x20 && (p0.B == 0)) && (p0.C == 0))
            else
              if ((p0.Op == 9) || (p0.Op == 11)) then
                some (((p0.A == 0) && x1) && (p0.C == 0))
              else
                if (p0.Op == 10) then
                  (spec_l05Reg p0.A).bind fun x21 =>
                  some ((x21 && x1) && (p0.C == 0))
                else
                  if ((p0.Op == 12) || (p0.Op == 14)) then
                    some (((p0.A == 0) && (p0.B == 0)) && (p0.C == 0))
                  else
                    some false
          else
            if (p0.Op == 5) then
              if (p0.Op == 5) then
                (spec_l05Reg p0.A).bind fun x22 =>
                some ((x22 && (p0.B == 0)) && (p0.C == 0))
              else
                if ((p0.Op == 9) || (p0.Op == 11)) then
                  some (((p0.A == 0) && x1) && (p0.C == 0))
                else
                  if (p0.Op == 10) then
                    (spec_l05Reg p0.A).bind fun x23 =>
                    some ((x23 && x1) && (p0.C == 0))
                  else
                    if ((p0.Op == 12) || (p0.Op == 14)) then
                      some (((p0.A == 0) && (p0.B == 0)) && (p0.C == 0))
                    else
                      some false
            else
              if ((p0.Op == 6) || (p0.Op == 13)) then
                (spec_l05Reg p0.A).bind fun x24 =>
                some ((x24 && (p0.B == 0)) && (p0.C == 0))
              else
                if ((p0.Op == 9) || (p0.Op == 11)) then
                  some (((p0.A == 0) && x1) && (p0.C == 0))
                else
                  if (p0.Op == 10) then
                    (spec_l05Reg p0.A).bind fun x25 =>
                    some ((x25 && x1) && (p0.C == 0))
                  else
                    if ((p0.Op == 12) || (p0.Op == 14)) then
                      some (((p0.A == 0) && (p0.B == 0)) && (p0.C == 0))
                    else
                      some false

def spec_ProgramOk (n : Nat) (p0 : D.Program) : Option Bool :=
  (spec_l01In p0.W 2 8).bind fun x1 =>
  (if (!x1) then some default else (spec_l01In p0.Mem 1 6)).bind fun x2 =>
  (if ((!x1) || (!x2)) then some default else (spec_WordOk p0.W p0.Mem)).bind fun x3 =>
  (if (((!x1) || (!x2)) || (!x3)) then some default else (spec_l01In p0.In 0 3)).bind fun x4 =>
  (if ((((!x1) || (!x2)) || (!x3)) || (!x4)) then some default else (spec_l01In (len p0.Code) 1 40)).bind fun x5 =>
  if (((((!x1) || (!x2)) || (!x3)) || (!x4)) || (!x5)) then
    some false
  else
    (iterN (fun (s1 : Int) =>
      if (decide (s1 < (len p0.Code))) then
        (get? p0.Code s1).bind fun x6 =>
        (spec_l05Ins x6 p0.W (len p0.Code)).bind fun x7 =>
        if (!x7) then
          some (.inr (.inr false))
        else
          some (.inl ((w64 (s1 + 1))))
      else
        some (.inr (.inl ()))
    ) n (0)).bind fun (rl1 : (Unit) ⊕ Bool) =>
    match rl1 with
    | .inl s1r =>
      some true
    | .inr v => some v

def spec_l02Const (p0 : Int) (p1 : Int) : Option D.Term :=
  some (D.Term.mk 0 p0 p1 (⟨[]⟩))

def spec_StartPath (n : Nat) (p0 : D.Program) : Option D.Path :=
  (spec_ProgramOk n p0).bind fun x1 =>
  if (!x1) then
    some (D.Path.mk 0 ([] : List D.Term) ([] : List D.Term) ([] : List Int) 0 ([] : List D.Term) 0 0 ([] : List D.Term) ([] : List Int))
  else
    (iterN (fun (s1 : Int × (List D.Term)) =>
      if (decide (s1.1 < 4)) then
        (spec_l02Const p0.W 0).bind fun x2 =>
        (app? s1.2 ([x2] : List D.Term)).bind fun x3 =>
        some (.inl ((w64 (s1.1 + 1)), x3))
      else
        some (.inr (s1.2))
    ) n (0, ([] : List D.Term))).bind fun (rl1 : (List D.Term)) =>
    (iterN (fun (s2 : Int × (List D.Term)) =>
      if (decide (s2.1 < p0.Mem)) then
        (spec_l02Const p0.W 0).bind fun x4 =>
        (app? s2.2 ([x4] : List D.Term)).bind fun x5 =>
        some (.inl ((w64 (s2.1 + 1)), x5))
      else
        some (.inr (s2.2))
    ) n (0, ([] : List D.Term))).bind fun (rl2 : (List D.Term)) =>
    some (D.Path.mk 0 rl1 rl2 ([] : List Int) 0 ([] : List D.Term) 0 0 ([] : List D.Term) ([] : List Int))

def impl_shapeOk (p0 : Int) (p1 : Int) : Option Bool :=
  some ((((decide (p0 ≥ 2)) && (decide (p0 ≤ 8))) && (decide (p1 ≥ 1))) && (decide (p1 ≤ 40)))

def impl_isWidth (p0 : Int) : Option Bool :=
  some ((decide (p0 ≥ 1)) && (decide (p0 ≤ 16)))

def impl_WordOk (p0 : Int) (p1 : Int) : Option Bool :=
  (impl_isWidth p0).bind fun x1 =>
  (if (x1 && (decide (p1 ≥ 0))) then (shl? 1 (IntKind.u64.wrap p0)) else some default).bind fun x2 =>
  some ((x1 && (decide (p1 ≥ 0))) && (decide (p1 < x2)))

def impl_isReg (p0 : Int) : Option Bool :=
  some ((decide (p0 ≥ 0)) && (decide (p0 < 4)))

def impl_isTwoWords (p0 : Int) : Option Bool :=
  some ((decide (p0 ≥ 3)) && (decide (p0 ≤ 16)))

def impl_insOk (p0 : D.Ins) (p1 : Int) (p2 : Int) : Option Bool :=
  if (p0.Op == 3) then
    (impl_isReg p0.A).bind fun x1 =>
    (if x1 then (impl_isReg p0.B) else some default).bind fun x2 =>
    (if (x1 && x2) then (impl_isTwoWords p0.C) else some default).bind fun x3 =>
    some ((x1 && x2) && x3)
  else
    if (p0.C != 0) then
      some false
    else
      if (p0.Op == 1) then
        (impl_isReg p0.A).bind fun x4 =>
        (if x4 then (impl_WordOk p1 p0.B) else some default).bind fun x5 =>
        some (x4 && x5)
      else
        if (p0.Op == 2) then
          if (p0.Op == 2) then
            (impl_isReg p0.A).bind fun x6 =>
            (if x6 then (impl_isReg p0.B) else some default).bind fun x7 =>
            some (x6 && x7)
          else
            if (p0.Op == 4) then
              if (p0.Op == 4) then
                (impl_isReg p0.A).bind fun x8 =>
                some (x8 && (p0.B == 0))
              else
                if ((p0.Op == 9) || (p0.Op == 11)) then
                  some ((p0.A == 0) && ((decide (p0.B ≥ 0)) && (decide (p0.B ≤ p2))))
                else
                  if (p0.Op == 10) then
                    (impl_isReg p0.A).bind fun x9 =>
                    some (x9 && ((decide (p0.B ≥ 0)) && (decide (p0.B ≤ p2))))
                  else
                    if ((p0.Op == 12) || (p0.Op == 14)) then
                      some ((p0.A == 0) && (p0.B == 0))
                    else
                      some false
            else
              if (p0.Op == 5) then
                if (p0.Op == 5) then
                  (impl_isReg p0.A).bind fun x10 =>
                  some (x10 && (p0.B == 0))
                else
                  if ((p0.Op == 9) || (p0.Op == 11)) then
                    some ((p0.A == 0) && ((decide (p0.B ≥ 0)) && (decide (p0.B ≤ p2))))
                  else
                    if (p0.Op == 10) then
                      (impl_isReg p0.A).bind fun x11 =>
                      some (x11 && ((decide (p0.B ≥ 0)) && (decide (p0.B ≤ p2))))
                    else
                      if ((p0.Op == 12) || (p0.Op == 14)) then
                        some ((p0.A == 0) && (p0.B == 0))
                      else
                        some false
              else
                if ((p0.Op == 6) || (p0.Op == 13)) then
                  (impl_isReg p0.A).bind fun x12 =>
                  some (x12 && (p0.B == 0))
                else
                  if ((p0.Op == 9) || (p0.Op == 11)) then
                    some ((p0.A == 0) && ((decide (p0.B ≥ 0)) && (decide (p0.B ≤ p2))))
                  else
                    if (p0.Op == 10) then
                      (impl_isReg p0.A).bind fun x13 =>
                      some (x13 && ((decide (p0.B ≥ 0)) && (decide (p0.B ≤ p2))))
                    else
                      if ((p0.Op == 12) || (p0.Op == 14)) then
                        some ((p0.A == 0) && (p0.B == 0))
                      else
                        some false
        else
          if ((p0.Op == 7) || (p0.Op == 8)) then
            (impl_isReg p0.A).bind fun x14 =>
            (if x14 then (impl_isReg p0.B) else some default).bind fun x15 =>
            some (x14 && x15)
          else
            if (p0.Op == 4) then
              if (p0.Op == 4) then
                (impl_isReg p0.A).bind fun x16 =>
                some (x16 && (p0.B == 0))
              else
                if ((p0.Op == 9) || (p0.Op == 11)) then
                  some ((p0.A == 0) && ((decide (p0.B ≥ 0)) && (decide (p0.B ≤ p2))))
                else
                  if (p0.Op == 10) then
                    (impl_isReg p0.A).bind fun x17 =>
                    some (x17 && ((decide (p0.B ≥ 0)) && (decide (p0.B ≤ p2))))
                  else
                    if ((p0.Op == 12) || (p0.Op == 14)) then
                      some ((p0.A == 0) && (p0.B == 0))
                    else
                      some false
            else
              if (p0.Op == 5) then
                if (p0.Op == 5) then
                  (impl_isReg p0.A).bind fun x18 =>
                  some (x18 && (p0.B == 0))
                else
                  if ((p0.Op == 9) || (p0.Op == 11)) then
                    some ((p0.A == 0) && ((decide (p0.B ≥ 0)) && (decide (p0.B ≤ p2))))
                  else
                    if (p0.Op == 10) then
                      (impl_isReg p0.A).bind fun x19 =>
                      some (x19 && ((decide (p0.B ≥ 0)) && (decide (p0.B ≤ p2))))
                    else
                      if ((p0.Op == 12) || (p0.Op == 14)) then
                        some ((p0.A == 0) && (p0.B == 0))
                      else
                        some false
              else
                if ((p0.Op == 6) || (p0.Op == 13)) then
                  (impl_isReg p0.A).bind fun x20 =>
                  some (x20 && (p0.B == 0))
                else
                  if ((p0.Op == 9) || (p0.Op == 11)) then
                    some ((p0.A == 0) && ((decide (p0.B ≥ 0)) && (decide (p0.B ≤ p2))))
                  else
                    if (p0.Op == 10) then
                      (impl_isReg p0.A).bind fun x21 =>
                      some (x21 && ((decide (p0.B ≥ 0)) && (decide (p0.B ≤ p2))))
                    else
                      if ((p0.Op == 12) || (p0.Op == 14)) then
                        some ((p0.A == 0) && (p0.B == 0))
                      else
                        some false

def impl_ProgramOk (n : Nat) (p0 : D.Program) : Option Bool :=
  (impl_shapeOk p0.W (len p0.Code)).bind fun x1 =>
  (if (((!x1) || (decide (p0.Mem < 1))) || (decide (p0.Mem > 6))) then some default else (impl_WordOk p0.W p0.Mem)).bind fun x2 =>
  if ((((!x1) || (decide (p0.Mem < 1))) || (decide (p0.Mem > 6))) || (!x2)) then
    some false
  else
    if ((decide (p0.In < 0)) || (decide (p0.In > 3))) then
      some false
    else
      (iterN (fun (s1 : Int) =>
        if (decide (s1 < (len p0.Code))) then
          (get? p0.Code s1).bind fun x3 =>
          (impl_insOk x3 p0.W (len p0.Code)).bind fun x4 =>
          if (!x4) then
            some (.inr (.inr false))
          else
            some (.inl ((w64 (s1 + 1))))
        else
          some (.inr (.inl ()))
      ) n (0)).bind fun (rl1 : (Unit) ⊕ Bool) =>
      match rl1 with
      | .inl s1r =>
        some true
      | .inr v => some v

def impl_ConstTerm (p0 : Int) (p1 : Int) : Option D.Term :=
  (impl_WordOk p0 p1).bind fun x1 =>
  if (!x1) then
    some (D.Term.mk 0 0 0 (⟨[]⟩))
  else
    some (D.Term.mk 0 p0 p1 (⟨[]⟩))

def impl_startPath (n : Nat) (p0 : D.Program) : Option D.Path :=
  (mk? 4 ((D.Term.mk 0 0 0 (⟨[]⟩)) : D.Term)).bind fun x1 =>
  (mk? p0.Mem ((D.Term.mk 0 0 0 (⟨[]⟩)) : D.Term)).bind fun x2 =>
  (iterN (fun (s1 : Int × (List D.Term)) =>
    if (decide (s1.1 < (len x1))) then
      (impl_ConstTerm p0.W 0).bind fun x3 =>
      (set? s1.2 s1.1 x3).bind fun x4 =>
      some (.inl ((w64 (s1.1 + 1)), x4))
    else
      some (.inr (s1.2))
  ) n (0, x1)).bind fun (rl1 : (List D.Term)) =>
  (iterN (fun (s2 : Int × (List D.Term)) =>
    if (decide (s2.1 < (len x2))) then
      (impl_ConstTerm p0.W 0).bind fun x5 =>
      (set? s2.2 s2.1 x5).bind fun x6 =>
      some (.inl ((w64 (s2.1 + 1)), x6))
    else
      some (.inr (s2.2))
  ) n (0, x2)).bind fun (rl2 : (List D.Term)) =>
  some (D.Path.mk 0 rl1 rl2 ([] : List Int) 0 ([] : List D.Term) 0 0 ([] : List D.Term) ([] : List Int))

def impl_StartPath (n : Nat) (p0 : D.Program) : Option D.Path :=
  (impl_ProgramOk n p0).bind fun x1 =>
  if (!x1) then
    some (D.Path.mk 0 ([] : List D.Term) ([] : List D.Term) ([] : List Int) 0 ([] : List D.Term) 0 0 ([] : List D.Term) ([] : List Int))
  else
    (impl_startPath n p0).bind fun x2 =>
    some x2

def laws_eqTerm__0 (p0 : D.Term) (p1 : D.Term) : Option Bool :=
  if (p0.Op != p1.Op) then
    some false
  else
    if (p0.W != p1.W) then
      some false
    else
      if (p0.N != p1.N) then
        some false
      else
        if (!(Str.eqb p0.Name p1.Name)) then
          some false
        else
          none

def laws_eqTermS__0 (n : Nat) (p0 : List D.Term) (p1 : List D.Term) : Option Bool :=
  if ((len p0) != (len p1)) then
    some false
  else
    (iterN (fun (s1 : Int) =>
      if (decide (s1 < (len p0))) then
        (get? p0 s1).bind fun x1 =>
        (get? p1 s1).bind fun x2 =>
        (laws_eqTerm__0 x1 x2).bind fun x3 =>
        if (!x3) then
          some (.inr (.inr false))
        else
          some (.inl ((w64 (s1 + 1))))
      else
        some (.inr (.inl ()))
    ) n (0)).bind fun (rl1 : (Unit) ⊕ Bool) =>
    match rl1 with
    | .inl s1r =>
      some true
    | .inr v => some v

def laws_eqTerm__1 (n : Nat) (p0 : D.Term) (p1 : D.Term) : Option Bool :=
  if (p0.Op != p1.Op) then
    some false
  else
    if (p0.W != p1.W) then
      some false
    else
      if (p0.N != p1.N) then
        some false
      else
        if (!(Str.eqb p0.Name p1.Name)) then
          some false
        else
          (laws_eqTermS__0 n ([] : List D.Term) ([] : List D.Term)).bind fun x1 =>
          if (!x1) then
            some false
          else
            some true

def laws_eqTermS__1 (n : Nat) (p0 : List D.Term) (p1 : List D.Term) : Option Bool :=
  if ((len p0) != (len p1)) then
    some false
  else
    (iterN (fun (s1 : Int) =>
      if (decide (s1 < (len p0))) then
        (get? p0 s1).bind fun x1 =>
        (get? p1 s1).bind fun x2 =>
        (laws_eqTerm__1 n x1 x2).bind fun x3 =>
        if (!x3) then
          some (.inr (.inr false))
        else
          some (.inl ((w64 (s1 + 1))))
      else
        some (.inr (.inl ()))
    ) n (0)).bind fun (rl1 : (Unit) ⊕ Bool) =>
    match rl1 with
    | .inl s1r =>
      some true
    | .inr v => some v

def laws_eqIntS (n : Nat) (p0 : List Int) (p1 : List Int) : Option Bool :=
  if ((len p0) != (len p1)) then
    some false
  else
    (iterN (fun (s1 : Int) =>
      if (decide (s1 < (len p0))) then
        (get? p0 s1).bind fun x1 =>
        (get? p1 s1).bind fun x2 =>
        if (x1 != x2) then
          some (.inr (.inr false))
        else
          some (.inl ((w64 (s1 + 1))))
      else
        some (.inr (.inl ()))
    ) n (0)).bind fun (rl1 : (Unit) ⊕ Bool) =>
    match rl1 with
    | .inl s1r =>
      some true
    | .inr v => some v

def laws_eqPath (n : Nat) (p0 : D.Path) (p1 : D.Path) : Option Bool :=
  if (p0.Pc != p1.Pc) then
    some false
  else
    (laws_eqTermS__1 n p0.Regs p1.Regs).bind fun x1 =>
    if (!x1) then
      some false
    else
      (laws_eqTermS__1 n p0.Mem p1.Mem).bind fun x2 =>
      if (!x2) then
        some false
      else
        (laws_eqIntS n p0.Stack p1.Stack).bind fun x3 =>
        if (!x3) then
          some false
        else
          if (p0.In != p1.In) then
            some false
          else
            (laws_eqTermS__1 n p0.Out p1.Out).bind fun x4 =>
            if (!x4) then
              some false
            else
              if (p0.Code != p1.Code) then
                some false
              else
                if (p0.Steps != p1.Steps) then
                  some false
                else
                  (laws_eqTermS__1 n p0.Cond p1.Cond).bind fun x5 =>
                  if (!x5) then
                    some false
                  else
                    (laws_eqIntS n p0.Turns p1.Turns).bind fun x6 =>
                    if (!x6) then
                      some false
                    else
                      some true

def laws_eqIns (p0 : D.Ins) (p1 : D.Ins) : Option Bool :=
  if (p0.Op != p1.Op) then
    some false
  else
    if (p0.A != p1.A) then
      some false
    else
      if (p0.B != p1.B) then
        some false
      else
        if (p0.C != p1.C) then
          some false
        else
          some true

def laws_eqInsS (n : Nat) (p0 : List D.Ins) (p1 : List D.Ins) : Option Bool :=
  if ((len p0) != (len p1)) then
    some false
  else
    (iterN (fun (s1 : Int) =>
      if (decide (s1 < (len p0))) then
        (get? p0 s1).bind fun x1 =>
        (get? p1 s1).bind fun x2 =>
        (laws_eqIns x1 x2).bind fun x3 =>
        if (!x3) then
          some (.inr (.inr false))
        else
          some (.inl ((w64 (s1 + 1))))
      else
        some (.inr (.inl ()))
    ) n (0)).bind fun (rl1 : (Unit) ⊕ Bool) =>
    match rl1 with
    | .inl s1r =>
      some true
    | .inr v => some v

def laws_eqProgram (n : Nat) (p0 : D.Program) (p1 : D.Program) : Option Bool :=
  if (p0.W != p1.W) then
    some false
  else
    if (p0.Mem != p1.Mem) then
      some false
    else
      if (p0.In != p1.In) then
        some false
      else
        (laws_eqInsS n p0.Code p1.Code).bind fun x1 =>
        if (!x1) then
          some false
        else
          some true

def laws_markInsS (n : Nat) (p0 : List D.Ins) (p1 : Int) : Option (Int × (List D.Ins)) :=
  (iterN (fun (s1 : Int × Int × (List D.Ins)) =>
    if (decide (s1.2.1 < (len p0))) then
      (get? s1.2.2 s1.2.1).bind fun x1 =>
      (set? s1.2.2 s1.2.1 ({ x1 with Op := s1.1 } : D.Ins)).bind fun x2 =>
      (get? x2 s1.2.1).bind fun x3 =>
      (set? x2 s1.2.1 ({ x3 with A := (w64 (s1.1 + 1)) } : D.Ins)).bind fun x4 =>
      (get? x4 s1.2.1).bind fun x5 =>
      (set? x4 s1.2.1 ({ x5 with B := (w64 ((w64 (s1.1 + 1)) + 1)) } : D.Ins)).bind fun x6 =>
      (get? x6 s1.2.1).bind fun x7 =>
      (set? x6 s1.2.1 ({ x7 with C := (w64 ((w64 ((w64 (s1.1 + 1)) + 1)) + 1)) } : D.Ins)).bind fun x8 =>
      some (.inl ((w64 ((w64 ((w64 ((w64 (s1.1 + 1)) + 1)) + 1)) + 1)), (w64 (s1.2.1 + 1)), x8))
    else
      some (.inr (s1.1, s1.2.2))
  ) n (p1, 0, p0)).bind fun (rl1 : Int × (List D.Ins)) =>
  some (rl1.1, rl1.2)

def laws_markProgram (n : Nat) (p0 : D.Program) (p1 : Int) : Option (Int × D.Program) :=
  (laws_markInsS n p0.Code p1).bind fun x1 =>
  some (x1.1, (D.Program.mk p0.W p0.Mem p0.In x1.2))

def laws_markText (n : Nat) (p0 : Int) : Option Str :=
  if (decide (p0 ≤ 0)) then
    some (⟨[109, 48]⟩)
  else
    (iterN (fun (s1 : Int × Str) =>
      if (decide (s1.1 > 0)) then
        (rem? s1.1 10).bind fun x1 =>
        (cat? (strOf ([(Byt.mk (IntKind.u8.wrap (w64 (48 + x1))))] : List Byt)) s1.2).bind fun x2 =>
        (quo? s1.1 10).bind fun x3 =>
        some (.inl (x3, x2))
      else
        some (.inr (s1.2))
    ) n (p0, ⟨[]⟩)).bind fun (rl1 : Str) =>
    (cat? (⟨[109]⟩) rl1).bind fun x4 =>
    some x4

def laws_markTermS__0 (n : Nat) (p0 : List D.Term) (p1 : Int) : Option Int :=
  (iterN (fun (s1 : Int × Int) =>
    if (decide (s1.2 < (len p0))) then
      none
    else
      some (.inr (s1.1))
  ) n (p1, 0)).bind fun (rl1 : Int) =>
  some rl1

def laws_markTermS__1 (n : Nat) (p0 : List D.Term) (p1 : Int) : Option (Int × (List D.Term)) :=
  (iterN (fun (s1 : Int × Int × (List D.Term)) =>
    if (decide (s1.2.1 < (len p0))) then
      (get? s1.2.2 s1.2.1).bind fun x1 =>
      (set? s1.2.2 s1.2.1 ({ x1 with Op := s1.1 } : D.Term)).bind fun x2 =>
      (get? x2 s1.2.1).bind fun x3 =>
      (set? x2 s1.2.1 ({ x3 with W := (w64 (s1.1 + 1)) } : D.Term)).bind fun x4 =>
      (get? x4 s1.2.1).bind fun x5 =>
      (set? x4 s1.2.1 ({ x5 with N := (w64 ((w64 (s1.1 + 1)) + 1)) } : D.Term)).bind fun x6 =>
      (laws_markText n (w64 ((w64 ((w64 (s1.1 + 1)) + 1)) + 1))).bind fun x7 =>
      (get? x6 s1.2.1).bind fun x8 =>
      (set? x6 s1.2.1 ({ x8 with Name := x7 } : D.Term)).bind fun x9 =>
      (get? x9 s1.2.1).bind fun x10 =>
      (laws_markTermS__0 n ([] : List D.Term) (w64 ((w64 ((w64 ((w64 (s1.1 + 1)) + 1)) + 1)) + 1))).bind fun x11 =>
      some (.inl (x11, (w64 (s1.2.1 + 1)), x9))
    else
      some (.inr (s1.1, s1.2.2))
  ) n (p1, 0, p0)).bind fun (rl1 : Int × (List D.Term)) =>
  some (rl1.1, rl1.2)

def laws_markIntS (n : Nat) (p0 : List Int) (p1 : Int) : Option (Int × (List Int)) :=
  (iterN (fun (s1 : Int × Int × (List Int)) =>
    if (decide (s1.2.1 < (len p0))) then
      (set? s1.2.2 s1.2.1 s1.1).bind fun x1 =>
      some (.inl ((w64 (s1.1 + 1)), (w64 (s1.2.1 + 1)), x1))
    else
      some (.inr (s1.1, s1.2.2))
  ) n (p1, 0, p0)).bind fun (rl1 : Int × (List Int)) =>
  some (rl1.1, rl1.2)

def laws_markPath (n : Nat) (p0 : D.Path) (p1 : Int) : Option (Int × D.Path) :=
  (laws_markTermS__1 n p0.Regs p1).bind fun x1 =>
  (laws_markTermS__1 n p0.Mem x1.1).bind fun x2 =>
  (laws_markIntS n p0.Stack x2.1).bind fun x3 =>
  (laws_markTermS__1 n p0.Out x3.1).bind fun x4 =>
  (laws_markTermS__1 n p0.Cond x4.1).bind fun x5 =>
  (laws_markIntS n p0.Turns x5.1).bind fun x6 =>
  some (x6.1, (D.Path.mk p0.Pc x1.2 x2.2 x3.2 p0.In x4.2 p0.Code p0.Steps x5.2 x6.2))

def laws_heldTermS__0 (n : Nat) (p0 : List D.Term) (p1 : Int) : Option Int :=
  (iterN (fun (s1 : Int × Int) =>
    if (decide (s1.2 < (len p0))) then
      (get? p0 s1.2).bind fun x1 =>
      if (x1.Op != s1.1) then
        some (.inr (.inr (-1)))
      else
        (get? p0 s1.2).bind fun x2 =>
        if (x2.W != (w64 (s1.1 + 1))) then
          some (.inr (.inr (-1)))
        else
          (get? p0 s1.2).bind fun x3 =>
          if (x3.N != (w64 ((w64 (s1.1 + 1)) + 1))) then
            some (.inr (.inr (-1)))
          else
            (get? p0 s1.2).bind fun x4 =>
            (laws_markText n (w64 ((w64 ((w64 (s1.1 + 1)) + 1)) + 1))).bind fun x5 =>
            if (!(Str.eqb x4.Name x5)) then
              some (.inr (.inr (-1)))
            else
              none
    else
      some (.inr (.inl (s1.1)))
  ) n (p1, 0)).bind fun (rl1 : (Int) ⊕ Int) =>
  match rl1 with
  | .inl s1r =>
    some s1r
  | .inr v => some v

def laws_heldTermS__1 (n : Nat) (p0 : List D.Term) (p1 : Int) : Option Int :=
  (iterN (fun (s1 : Int × Int) =>
    if (decide (s1.2 < (len p0))) then
      (get? p0 s1.2).bind fun x1 =>
      if (x1.Op != s1.1) then
        some (.inr (.inr (-1)))
      else
        (get? p0 s1.2).bind fun x2 =>
        if (x2.W != (w64 (s1.1 + 1))) then
          some (.inr (.inr (-1)))
        else
          (get? p0 s1.2).bind fun x3 =>
          if (x3.N != (w64 ((w64 (s1.1 + 1)) + 1))) then
            some (.inr (.inr (-1)))
          else
            (get? p0 s1.2).bind fun x4 =>
            (laws_markText n (w64 ((w64 ((w64 (s1.1 + 1)) + 1)) + 1))).bind fun x5 =>
            if (!(Str.eqb x4.Name x5)) then
              some (.inr (.inr (-1)))
            else
              (get? p0 s1.2).bind fun x6 =>
              (laws_heldTermS__0 n ([] : List D.Term) (w64 ((w64 ((w64 ((w64 (s1.1 + 1)) + 1)) + 1)) + 1))).bind fun x7 =>
              if (decide (x7 < 0)) then
                some (.inr (.inr (-1)))
              else
                some (.inl (x7, (w64 (s1.2 + 1))))
    else
      some (.inr (.inl (s1.1)))
  ) n (p1, 0)).bind fun (rl1 : (Int) ⊕ Int) =>
  match rl1 with
  | .inl s1r =>
    some s1r
  | .inr v => some v

def laws_heldIntS (n : Nat) (p0 : List Int) (p1 : Int) : Option Int :=
  (iterN (fun (s1 : Int × Int) =>
    if (decide (s1.2 < (len p0))) then
      (get? p0 s1.2).bind fun x1 =>
      if (x1 != s1.1) then
        some (.inr (.inr (-1)))
      else
        some (.inl ((w64 (s1.1 + 1)), (w64 (s1.2 + 1))))
    else
      some (.inr (.inl (s1.1)))
  ) n (p1, 0)).bind fun (rl1 : (Int) ⊕ Int) =>
  match rl1 with
  | .inl s1r =>
    some s1r
  | .inr v => some v

def laws_heldPath (n : Nat) (p0 : D.Path) (p1 : Int) : Option Int :=
  (laws_heldTermS__1 n p0.Regs p1).bind fun x1 =>
  if (decide (x1 < 0)) then
    some (-1)
  else
    (laws_heldTermS__1 n p0.Mem x1).bind fun x2 =>
    if (decide (x2 < 0)) then
      some (-1)
    else
      (laws_heldIntS n p0.Stack x2).bind fun x3 =>
      if (decide (x3 < 0)) then
        some (-1)
      else
        (laws_heldTermS__1 n p0.Out x3).bind fun x4 =>
        if (decide (x4 < 0)) then
          some (-1)
        else
          (laws_heldTermS__1 n p0.Cond x4).bind fun x5 =>
          if (decide (x5 < 0)) then
            some (-1)
          else
            (laws_heldIntS n p0.Turns x5).bind fun x6 =>
            if (decide (x6 < 0)) then
              some (-1)
            else
              some x6

def laws_FnExactStartPath (n : Nat) (p0 : D.Program) : Option Bool :=
  (laws_szProgram p0 1048576).bind fun x1 =>
  if (decide (x1 < 0)) then
    some true
  else
    (laws_toProgram n p0).bind fun x2 =>
    (spec_StartPath n x2).bind fun x3 =>
    (laws_toProgram n p0).bind fun x4 =>
    (impl_StartPath n x4).bind fun x5 =>
    (laws_eqPath n x5 x3).bind fun x6 =>
    if (!x6) then
      some false
    else
      (laws_toProgram n p0).bind fun x7 =>
      (laws_eqProgram n x4 x7).bind fun x8 =>
      if (!x8) then
        some false
      else
        (laws_markProgram n x4 1).bind fun x9 =>
        (if (decide (x9.1 < 0)) then some default else (laws_eqPath n x5 x3)).bind fun x10 =>
        if ((decide (x9.1 < 0)) || (!x10)) then
          some false
        else
          (laws_markPath n x5 1).bind fun x11 =>
          (laws_heldPath n (D.Path.mk x5.Pc x11.2.Regs x11.2.Mem x11.2.Stack x5.In x11.2.Out x5.Code x5.Steps x11.2.Cond x11.2.Turns) 1).bind fun x12 =>
          if (decide (x12 < 0)) then
            some false
          else
            if (x12 != x11.1) then
              some false
            else
              (laws_toProgram n p0).bind fun x13 =>
              (impl_StartPath n x13).bind fun x14 =>
              (laws_eqPath n x14 x3).bind fun x15 =>
              if (!x15) then
                some false
              else
                (laws_heldPath n (D.Path.mk x5.Pc x11.2.Regs x11.2.Mem x11.2.Stack x5.In x11.2.Out x5.Code x5.Steps x11.2.Cond x11.2.Turns) 1).bind fun x16 =>
                if (decide (x16 < 0)) then
                  some false
                else
                  if (x16 != x11.1) then
                    some false
                  else
                    some true
end Go.GL
