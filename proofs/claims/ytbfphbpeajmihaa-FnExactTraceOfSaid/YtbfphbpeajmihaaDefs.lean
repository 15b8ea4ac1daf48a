/- Printed by gen2.py: Go functions as Lean functions. -/
import Derived.Test.YtbfphbpeajmihaaGLp
set_option linter.unusedVariables false
namespace Go.GL
def laws_szInsS (p0 : List D.Ins) (p1 : Int) : Option Int :=
  if (decide ((w64 (p1 - (len p0))) < 0)) then
    some (-1)
  else
    some (w64 (p1 - (len p0)))

def laws_szProgram (p0 : D.Program) (p1 : Int) : Option Int :=
  (laws_szInsS p0.Code p1).bind fun x1 =>
  if (decide (x1 < 0)) then
    some (-1)
  else
    some x1

def laws_toIns (p0 : D.Ins) : Option D.Ins :=
  some p0

def laws_toInsS (n : Nat) (p0 : List D.Ins) : Option (List D.Ins) :=
  (mk? (len p0) ((D.Ins.mk 0 0 0 0) : D.Ins)).bind fun x1 =>
  (iterN (fun (s1 : Int × (List D.Ins)) =>
    if (decide (s1.1 < (len p0))) then
      (get? p0 s1.1).bind fun x2 =>
      (laws_toIns x2).bind fun x3 =>
      (set? s1.2 s1.1 x3).bind fun x4 =>
      some (.inl ((w64 (s1.1 + 1)), x4))
    else
      some (.inr (s1.2))
  ) n (0, x1)).bind fun (rl1 : (List D.Ins)) =>
  some rl1

def laws_toProgram (n : Nat) (p0 : D.Program) : Option D.Program :=
  (laws_toInsS n p0.Code).bind fun x1 =>
  some (D.Program.mk p0.W p0.Mem p0.In x1)

def laws_toIntS (n : Nat) (p0 : List Int) : Option (List Int) :=
  (mk? (len p0) (0 : Int)).bind fun x1 =>
  (iterN (fun (s1 : Int × (List Int)) =>
    if (decide (s1.1 < (len p0))) then
      (get? p0 s1.1).bind fun x2 =>
      (set? s1.2 s1.1 x2).bind fun x3 =>
      some (.inl ((w64 (s1.1 + 1)), x3))
    else
      some (.inr (s1.2))
  ) n (0, x1)).bind fun (rl1 : (List Int)) =>
  some rl1

def spec_l01In (p0 : Int) (p1 : Int) (p2 : Int) : Option Bool :=
  some ((decide (p0 ≥ p1)) && (decide (p0 ≤ p2)))

def spec_WordOk (p0 : Int) (p1 : Int) : Option Bool :=
  (spec_l01In p0 1 16).bind fun x1 =>
  (if x1 then (shl? 1 p0) else some default).bind fun x2 =>
  (if x1 then (spec_l01In p1 0 (w64 (x2 - 1))) else some default).bind fun x3 =>
  some (x1 && x3)

def spec_l05Reg (p0 : Int) : Option Bool :=
  (spec_l01In p0 0 3).bind fun x1 =>
  some x1

def spec_l05Ins (p0 : D.Ins) (p1 : Int) (p2 : Int) : Option Bool :=
  (spec_l01In p0.B 0 p2).bind fun x1 =>
  if (p0.Op == 1) then
    (spec_l05Reg p0.A).bind fun x2 =>
    (if x2 then (spec_WordOk p1 p0.B) else some default).bind fun x3 =>
    some ((x2 && x3) && (p0.C == 0))
  else
    if (p0.Op == 2) then
      if (p0.Op == 2) then
        (spec_l05Reg p0.A).bind fun x4 =>
        (if x4 then (spec_l05Reg p0.B) else some default).bind fun x5 =>
        some ((x4 && x5) && (p0.C == 0))
      else
        if (p0.Op == 3) then
          (spec_l05Reg p0.A).bind fun x6 =>
          (if x6 then (spec_l05Reg p0.B) else some default).bind fun x7 =>
          (if (x6 && x7) then (spec_l01In p0.C 3 16) else some default).bind fun x8 =>
          some ((x6 && x7) && x8)
        else
          if (p0.Op == 4) then
            if (p0.Op == 4) then
              (spec_l05Reg p0.A).bind fun x9 =>
              some ((x9 && (p0.B == 0)) && (p0.C == 0))
            else
              if ((p0.Op == 9) || (p0.Op == 11)) then
                some (((p0.A == 0) && x1) && (p0.C == 0))
              else
                if (p0.Op == 10) then
                  (spec_l05Reg p0.A).bind fun x10 =>
                  some ((x10 && x1) && (p0.C == 0))
                else
                  if ((p0.Op == 12) || (p0.Op == 14)) then
                    some (((p0.A == 0) && (p0.B == 0)) && (p0.C == 0))
                  else
                    some false
          else
            if (p0.Op == 5) then
              if (p0.Op == 5) then
                (spec_l05Reg p0.A).bind fun x11 =>
                some ((x11 && (p0.B == 0)) && (p0.C == 0))
              else
                if ((p0.Op == 9) || (p0.Op == 11)) then
                  some (((p0.A == 0) && x1) && (p0.C == 0))
                else
                  if (p0.Op == 10) then
                    (spec_l05Reg p0.A).bind fun x12 =>
                    some ((x12 && x1) && (p0.C == 0))
                  else
                    if ((p0.Op == 12) || (p0.Op == 14)) then
                      some (((p0.A == 0) && (p0.B == 0)) && (p0.C == 0))
                    else
                      some false
            else
              if ((p0.Op == 6) || (p0.Op == 13)) then
                (spec_l05Reg p0.A).bind fun x13 =>
                some ((x13 && (p0.B == 0)) && (p0.C == 0))
              else
                if ((p0.Op == 9) || (p0.Op == 11)) then
                  some (((p0.A == 0) && x1) && (p0.C == 0))
                else
                  if (p0.Op == 10) then
                    (spec_l05Reg p0.A).bind fun x14 =>
                    some ((x14 && x1) && (p0.C == 0))
                  else
                    if ((p0.Op == 12) || (p0.Op == 14)) then
                      some (((p0.A == 0) && (p0.B == 0)) && (p0.C == 0))
                    else
                      some false
    else
      if ((p0.Op == 7) || (p0.Op == 8)) then
        (spec_l05Reg p0.A).bind fun x15 =>
        (if x15 then (spec_l05Reg p0.B) else some default).bind fun x16 =>
        some ((x15 && x16) && (p0.C == 0))
      else
        if (p0.Op == 3) then
          (spec_l05Reg p0.A).bind fun x17 =>
          (if x17 then (spec_l05Reg p0.B) else some default).bind fun x18 =>
          (if (x17 && x18) then (spec_l01In p0.C 3 16) else some default).bind fun x19 =>
          some ((x17 && x18) && x19)
        else
          if (p0.Op == 4) then
            if (p0.Op == 4) then
              (spec_l05Reg p0.A).bind fun x20 =>
              some ((x20 && (p0.B == 0)) && (p0.C == 0))
            else
              if ((p0.Op == 9) || (p0.Op == 11)) then
                some (((p0.A == 0) && x1) && (p0.C == 0))
              else
                if (p0.Op == 10) then
                  (spec_l05Reg p0.A).bind fun x21 =>
                  some ((x21 && x1) && (p0.C == 0))
                else
                  if ((p0.Op == 12) || (p0.Op == 14)) then
                    some (((p0.A == 0) && (p0.B == 0)) && (p0.C == 0))
                  else
                    some false
          else
            if (p0.Op == 5) then
              if (p0.Op == 5) then
                (spec_l05Reg p0.A).bind fun x22 =>
                some ((x22 && (p0.B == 0)) && (p0.C == 0))
              else
                if ((p0.Op == 9) || (p0.Op == 11)) then
                  some (((p0.A == 0) && x1) && (p0.C == 0))
                else
                  if (p0.Op == 10) then
                    (spec_l05Reg p0.A).bind fun x23 =>
                    some ((x23 && x1) && (p0.C == 0))
                  else
                    if ((p0.Op == 12) || (p0.Op == 14)) then
                      some (((p0.A == 0) && (p0.B == 0)) && (p0.C == 0))
                    else
                      some false
            else
              if ((p0.Op == 6) || (p0.Op == 13)) then
                (spec_l05Reg p0.A).bind fun x24 =>
                some ((x24 && (p0.B == 0)) && (p0.C == 0))
              else
                if ((p0.Op == 9) || (p0.Op == 11)) then
                  some (((p0.A == 0) && x1) && (p0.C == 0))
                else
                  if (p0.Op == 10) then
                    (spec_l05Reg p0.A).bind fun x25 =>
                    some ((x25 && x1) && (p0.C == 0))
                  else
                    if ((p0.Op == 12) || (p0.Op == 14)) then
                      some (((p0.A == 0) && (p0.B == 0)) && (p0.C == 0))
                    else
                      some false

def spec_ProgramOk (n : Nat) (p0 : D.Program) : Option Bool :=
  (spec_l01In p0.W 2 8).bind fun x1 =>
  (if (!x1) then some default else (spec_l01In p0.Mem 1 6)).bind fun x2 =>
  (if ((!x1) || (!x2)) then some default else (spec_WordOk p0.W p0.Mem)).bind fun x3 =>
  (if (((!x1) || (!x2)) || (!x3)) then some default else (spec_l01In p0.In 0 3)).bind fun x4 =>
  (if ((((!x1) || (!x2)) || (!x3)) || (!x4)) then some default else (spec_l01In (len p0.Code) 1 40)).bind fun x5 =>
  if (((((!x1) || (!x2)) || (!x3)) || (!x4)) || (!x5)) then
    some false
  else
    (iterN (fun (s1 : Int) =>
      if (decide (s1 < (len p0.Code))) then
        (get? p0.Code s1).bind fun x6 =>
        (spec_l05Ins x6 p0.W (len p0.Code)).bind fun x7 =>
        if (!x7) then
          some (.inr (.inr false))
        else
          some (.inl ((w64 (s1 + 1))))
      else
        some (.inr (.inl ()))
    ) n (0)).bind fun (rl1 : (Unit) ⊕ Bool) =>
    match rl1 with
    | .inl s1r =>
      some true
    | .inr v => some v

def spec_l05Words (n : Nat) (p0 : List Int) (p1 : Int) (p2 : Int) : Option Bool :=
  (iterN (fun (s1 : Int) =>
    if (decide (s1 < (len p0))) then
      (get? p0 s1).bind fun x1 =>
      (spec_WordOk p2 x1).bind fun x2 =>
      if (!x2) then
        some (.inr (.inr false))
      else
        some (.inl ((w64 (s1 + 1))))
    else
      some (.inr (.inl ()))
  ) n (0)).bind fun (rl1 : (Unit) ⊕ Bool) =>
  match rl1 with
  | .inl s1r =>
    some ((len p0) == p1)
  | .inr v => some v

def spec_InputsOk (n : Nat) (p0 : D.Program) (p1 : List Int) : Option Bool :=
  (spec_ProgramOk n p0).bind fun x1 =>
  (if x1 then (spec_l05Words n p1 p0.In p0.W) else some default).bind fun x2 =>
  some (x1 && x2)

def spec_NewState (n : Nat) (p0 : D.Program) : Option D.State :=
  (spec_ProgramOk n p0).bind fun x1 =>
  if (!x1) then
    some (D.State.mk 0 ([] : List Int) ([] : List Int) ([] : List Int) 0 ([] : List Int) 0 0)
  else
    (mk? 4 (0 : Int)).bind fun x2 =>
    (mk? p0.Mem (0 : Int)).bind fun x3 =>
    some (D.State.mk 0 x2 x3 ([] : List Int) 0 ([] : List Int) 0 0)

def spec_l05Why (p0 : D.Program) (p1 : D.State) (p2 : D.Ins) : Option Int :=
  if (p2.Op == 5) then
    if (p1.In == p0.In) then
      some 3
    else
      some 0
  else
    if (p2.Op == 6) then
      if ((len p1.Out) == 6) then
        some 4
      else
        some 0
    else
      if (p2.Op == 7) then
        (get? p1.Regs p2.B).bind fun x1 =>
        if (decide (x1 ≥ p0.Mem)) then
          some 5
        else
          some 0
      else
        if (p2.Op == 8) then
          (get? p1.Regs p2.A).bind fun x2 =>
          if (decide (x2 ≥ p0.Mem)) then
            some 5
          else
            some 0
        else
          if (p2.Op == 3) then
            (if ((p2.C == 6) || (p2.C == 7)) then (get? p1.Regs p2.B) else some default).bind fun x3 =>
            if (((p2.C == 6) || (p2.C == 7)) && (x3 == 0)) then
              some 6
            else
              some 0
          else
            if (p2.Op == 11) then
              if ((len p1.Stack) == 3) then
                some 7
              else
                some 0
            else
              if (p2.Op == 12) then
                if ((len p1.Stack) == 0) then
                  some 7
                else
                  some 0
              else
                if (p2.Op == 13) then
                  (get? p1.Regs p2.A).bind fun x4 =>
                  if (x4 == 0) then
                    some 8
                  else
                    some 0
                else
                  if (p2.Op == 14) then
                    some 1
                  else
                    some 0

def spec_WordOf (p0 : Int) (p1 : Int) : Option Int :=
  (spec_l01In p0 1 16).bind fun x1 =>
  if (!x1) then
    some (-1)
  else
    (shl? 1 p0).bind fun x2 =>
    some (band p1 (w64 (x2 - 1)))

def spec_SignedOf (p0 : Int) (p1 : Int) : Option Int :=
  (spec_WordOk p0 p1).bind fun x1 =>
  if (!x1) then
    some 0
  else
    (shr? p1 (w64 (p0 - 1))).bind fun x2 =>
    if (x2 == 1) then
      (shl? 1 p0).bind fun x3 =>
      some (w64 (p1 - x3))
    else
      some p1

def spec_l01Truth (p0 : Bool) : Option Int :=
  if p0 then
    some 1
  else
    some 0

def spec_ApplyBinary (p0 : Int) (p1 : Int) (p2 : Int) (p3 : Int) : Option Int :=
  (spec_WordOk p1 p2).bind fun x1 =>
  (if (!x1) then some default else (spec_WordOk p1 p3)).bind fun x2 =>
  if ((!x1) || (!x2)) then
    some (-1)
  else
    if (p0 == 3) then
      (spec_WordOf p1 (w64 (p2 + p3))).bind fun x3 =>
      some x3
    else
      if (p0 == 4) then
        (spec_WordOf p1 (w64 (p2 - p3))).bind fun x4 =>
        some x4
      else
        if (p0 == 5) then
          (spec_WordOf p1 (w64 (p2 * p3))).bind fun x5 =>
          some x5
        else
          if (p0 == 6) then
            if (p3 == 0) then
              (shl? 1 p1).bind fun x6 =>
              some (w64 (x6 - 1))
            else
              (quo? p2 p3).bind fun x7 =>
              some x7
          else
            if (p0 == 7) then
              if (p3 == 0) then
                some p2
              else
                (rem? p2 p3).bind fun x8 =>
                some x8
            else
              if (p0 == 8) then
                some (band p2 p3)
              else
                if (p0 == 9) then
                  some (bor p2 p3)
                else
                  if (p0 == 10) then
                    some (bxor p2 p3)
                  else
                    if (p0 == 11) then
                      if (decide (p3 ≥ p1)) then
                        some 0
                      else
                        (shl? p2 p3).bind fun x9 =>
                        (spec_WordOf p1 x9).bind fun x10 =>
                        some x10
                    else
                      if (p0 == 12) then
                        if (decide (p3 ≥ p1)) then
                          some 0
                        else
                          (shr? p2 p3).bind fun x11 =>
                          some x11
                      else
                        if (p0 == 13) then
                          (spec_SignedOf p1 p2).bind fun x12 =>
                          (shr? x12 (cond (decide (p3 ≥ p1)) (w64 (p1 - 1)) p3)).bind fun x13 =>
                          (spec_WordOf p1 x13).bind fun x14 =>
                          some x14
                        else
                          if (p0 == 14) then
                            (spec_l01Truth (p2 == p3)).bind fun x15 =>
                            some x15
                          else
                            if (p0 == 15) then
                              (spec_l01Truth (decide (p2 < p3))).bind fun x16 =>
                              some x16
                            else
                              if (p0 == 16) then
                                (spec_SignedOf p1 p2).bind fun x17 =>
                                (spec_SignedOf p1 p3).bind fun x18 =>
                                (spec_l01Truth (decide (x17 < x18))).bind fun x19 =>
                                some x19
                              else
                                some (-1)

def spec_ApplyUnary (p0 : Int) (p1 : Int) (p2 : Int) : Option Int :=
  (spec_WordOk p1 p2).bind fun x1 =>
  if (!x1) then
    some (-1)
  else
    if (p0 == 1) then
      (shl? 1 p1).bind fun x2 =>
      some (w64 ((w64 (x2 - 1)) - p2))
    else
      if (p0 == 2) then
        (spec_WordOf p1 (w64 (0 - p2))).bind fun x3 =>
        some x3
      else
        some (-1)

def spec_l05Step (p0 : D.Program) (p1 : D.State) (p2 : List Int) : Option D.State :=
  if ((p1.Code != 0) || (p1.Steps == 400)) then
    some p1
  else
    if (p1.Pc == (len p0.Code)) then
      some (D.State.mk p1.Pc p1.Regs p1.Mem p1.Stack p1.In p1.Out 2 p1.Steps)
    else
      (get? p0.Code p1.Pc).bind fun x1 =>
      (spec_l05Why p0 (D.State.mk p1.Pc p1.Regs p1.Mem p1.Stack p1.In p1.Out p1.Code (w64 (p1.Steps + 1))) x1).bind fun x2 =>
      if (x2 != 0) then
        some (D.State.mk p1.Pc p1.Regs p1.Mem p1.Stack p1.In p1.Out x2 (w64 (p1.Steps + 1)))
      else
        if (x1.Op == 1) then
          (set? p1.Regs x1.A x1.B).bind fun x3 =>
          some (D.State.mk (w64 (p1.Pc + 1)) x3 p1.Mem p1.Stack p1.In p1.Out x2 (w64 (p1.Steps + 1)))
        else
          if (x1.Op == 2) then
            (get? p1.Regs x1.B).bind fun x4 =>
            (set? p1.Regs x1.A x4).bind fun x5 =>
            some (D.State.mk (w64 (p1.Pc + 1)) x5 p1.Mem p1.Stack p1.In p1.Out x2 (w64 (p1.Steps + 1)))
          else
            if (x1.Op == 3) then
              (get? p1.Regs x1.A).bind fun x6 =>
              (get? p1.Regs x1.B).bind fun x7 =>
              (spec_ApplyBinary x1.C p0.W x6 x7).bind fun x8 =>
              (set? p1.Regs x1.A x8).bind fun x9 =>
              some (D.State.mk (w64 (p1.Pc + 1)) x9 p1.Mem p1.Stack p1.In p1.Out x2 (w64 (p1.Steps + 1)))
            else
              if (x1.Op == 4) then
                (get? p1.Regs x1.A).bind fun x10 =>
                (spec_ApplyUnary 1 p0.W x10).bind fun x11 =>
                (set? p1.Regs x1.A x11).bind fun x12 =>
                some (D.State.mk (w64 (p1.Pc + 1)) x12 p1.Mem p1.Stack p1.In p1.Out x2 (w64 (p1.Steps + 1)))
              else
                if (x1.Op == 5) then
                  (get? p2 p1.In).bind fun x13 =>
                  (set? p1.Regs x1.A x13).bind fun x14 =>
                  some (D.State.mk (w64 (p1.Pc + 1)) x14 p1.Mem p1.Stack (w64 (p1.In + 1)) p1.Out x2 (w64 (p1.Steps + 1)))
                else
                  if (x1.Op == 6) then
                    (get? p1.Regs x1.A).bind fun x15 =>
                    (app? p1.Out ([x15] : List Int)).bind fun x16 =>
                    some (D.State.mk (w64 (p1.Pc + 1)) p1.Regs p1.Mem p1.Stack p1.In x16 x2 (w64 (p1.Steps + 1)))
                  else
                    if (x1.Op == 7) then
                      (get? p1.Regs x1.B).bind fun x17 =>
                      (get? p1.Mem x17).bind fun x18 =>
                      (set? p1.Regs x1.A x18).bind fun x19 =>
                      some (D.State.mk (w64 (p1.Pc + 1)) x19 p1.Mem p1.Stack p1.In p1.Out x2 (w64 (p1.Steps + 1)))
                    else
                      if (x1.Op == 8) then
                        (get? p1.Regs x1.A).bind fun x20 =>
                        (get? p1.Regs x1.B).bind fun x21 =>
                        (set? p1.Mem x20 x21).bind fun x22 =>
                        some (D.State.mk (w64 (p1.Pc + 1)) p1.Regs x22 p1.Stack p1.In p1.Out x2 (w64 (p1.Steps + 1)))
                      else
                        if (x1.Op == 9) then
                          some (D.State.mk x1.B p1.Regs p1.Mem p1.Stack p1.In p1.Out x2 (w64 (p1.Steps + 1)))
                        else
                          if (x1.Op == 10) then
                            (get? p1.Regs x1.A).bind fun x23 =>
                            if (x23 == 0) then
                              some (D.State.mk x1.B p1.Regs p1.Mem p1.Stack p1.In p1.Out x2 (w64 (p1.Steps + 1)))
                            else
                              some (D.State.mk (w64 (p1.Pc + 1)) p1.Regs p1.Mem p1.Stack p1.In p1.Out x2 (w64 (p1.Steps + 1)))
                          else
                            if (x1.Op == 11) then
                              (app? p1.Stack ([(w64 (p1.Pc + 1))] : List Int)).bind fun x24 =>
                              some (D.State.mk x1.B p1.Regs p1.Mem x24 p1.In p1.Out x2 (w64 (p1.Steps + 1)))
                            else
                              if (x1.Op == 12) then
                                (get? p1.Stack (w64 ((len p1.Stack) - 1))).bind fun x25 =>
                                (cut? p1.Stack 0 (w64 ((len p1.Stack) - 1))).bind fun x26 =>
                                some (D.State.mk x25 p1.Regs p1.Mem x26 p1.In p1.Out x2 (w64 (p1.Steps + 1)))
                              else
                                some (D.State.mk (w64 (p1.Pc + 1)) p1.Regs p1.Mem p1.Stack p1.In p1.Out x2 (w64 (p1.Steps + 1)))

def spec_TraceOf (n : Nat) (p0 : D.Program) (p1 : List Int) (p2 : Int) : Option (List Int) :=
  (spec_InputsOk n p0 p1).bind fun x1 =>
  (if (!x1) then some default else (spec_l01In p2 0 400)).bind fun x2 =>
  if ((!x1) || (!x2)) then
    some ([] : List Int)
  else
    (spec_NewState n p0).bind fun x3 =>
    (iterN (fun (s1 : Int × Int × Int × Int × Int × (List Int) × (List Int) × (List Int) × (List Int) × (List Int)) =>
      if ((decide (s1.1 < p2)) && (s1.2.2.2.1 == 0)) then
        (spec_l05Step p0 (D.State.mk s1.2.1 s1.2.2.2.2.2.1 s1.2.2.2.2.2.2.1 s1.2.2.2.2.2.2.2.1 s1.2.2.1 s1.2.2.2.2.2.2.2.2.1 s1.2.2.2.1 s1.2.2.2.2.1) p1).bind fun x4 =>
        if (decide (x4.Steps > s1.2.2.2.2.1)) then
          (app? s1.2.2.2.2.2.2.2.2.2 ([s1.2.1] : List Int)).bind fun x5 =>
          some (.inl ((w64 (s1.1 + 1)), x4.Pc, x4.In, x4.Code, x4.Steps, x4.Regs, x4.Mem, x4.Stack, x4.Out, x5))
        else
          some (.inl ((w64 (s1.1 + 1)), x4.Pc, x4.In, x4.Code, x4.Steps, x4.Regs, x4.Mem, x4.Stack, x4.Out, s1.2.2.2.2.2.2.2.2.2))
      else
        some (.inr (s1.2.2.2.2.2.2.2.2.2))
    ) n (0, x3.Pc, x3.In, x3.Code, x3.Steps, x3.Regs, x3.Mem, x3.Stack, x3.Out, ([] : List Int))).bind fun (rl1 : (List Int)) =>
    some rl1

def impl_shapeOk (p0 : Int) (p1 : Int) : Option Bool :=
  some ((((decide (p0 ≥ 2)) && (decide (p0 ≤ 8))) && (decide (p1 ≥ 1))) && (decide (p1 ≤ 40)))

def impl_isWidth (p0 : Int) : Option Bool :=
  some ((decide (p0 ≥ 1)) && (decide (p0 ≤ 16)))

def impl_WordOk (p0 : Int) (p1 : Int) : Option Bool :=
  (impl_isWidth p0).bind fun x1 =>
  (if (x1 && (decide (p1 ≥ 0))) then (shl? 1 (IntKind.u64.wrap p0)) else some default).bind fun x2 =>
  some ((x1 && (decide (p1 ≥ 0))) && (decide (p1 < x2)))

def impl_isReg (p0 : Int) : Option Bool :=
  some ((decide (p0 ≥ 0)) && (decide (p0 < 4)))

def impl_isTwoWords (p0 : Int) : Option Bool :=
  some ((decide (p0 ≥ 3)) && (decide (p0 ≤ 16)))

def impl_insOk (p0 : D.Ins) (p1 : Int) (p2 : Int) : Option Bool :=
  if (p0.Op == 3) then
    (impl_isReg p0.A).bind fun x1 =>
    (if x1 then (impl_isReg p0.B) else some default).bind fun x2 =>
    (if (x1 && x2) then (impl_isTwoWords p0.C) else some default).bind fun x3 =>
    some ((x1 && x2) && x3)
  else
    if (p0.C != 0) then
      some false
    else
      if (p0.Op == 1) then
        (impl_isReg p0.A).bind fun x4 =>
        (if x4 then (impl_WordOk p1 p0.B) else some default).bind fun x5 =>
        some (x4 && x5)
      else
        if (p0.Op == 2) then
          if (p0.Op == 2) then
            (impl_isReg p0.A).bind fun x6 =>
            (if x6 then (impl_isReg p0.B) else some default).bind fun x7 =>
            some (x6 && x7)
          else
            if (p0.Op == 4) then
              if (p0.Op == 4) then
                (impl_isReg p0.A).bind fun x8 =>
                some (x8 && (p0.B == 0))
              else
                if ((p0.Op == 9) || (p0.Op == 11)) then
                  some ((p0.A == 0) && ((decide (p0.B ≥ 0)) && (decide (p0.B ≤ p2))))
                else
                  if (p0.Op == 10) then
                    (impl_isReg p0.A).bind fun x9 =>
                    some (x9 && ((decide (p0.B ≥ 0)) && (decide (p0.B ≤ p2))))
                  else
                    if ((p0.Op == 12) || (p0.Op == 14)) then
                      some ((p0.A == 0) && (p0.B == 0))
                    else
                      some false
            else
              if (p0.Op == 5) then
                if (p0.Op == 5) then
                  (impl_isReg p0.A).bind fun x10 =>
                  some (x10 && (p0.B == 0))
                else
                  if ((p0.Op == 9) || (p0.Op == 11)) then
                    some ((p0.A == 0) && ((decide (p0.B ≥ 0)) && (decide (p0.B ≤ p2))))
                  else
                    if (p0.Op == 10) then
                      (impl_isReg p0.A).bind fun x11 =>
                      some (x11 && ((decide (p0.B ≥ 0)) && (decide (p0.B ≤ p2))))
                    else
                      if ((p0.Op == 12) || (p0.Op == 14)) then
                        some ((p0.A == 0) && (p0.B == 0))
                      else
                        some false
              else
                if ((p0.Op == 6) || (p0.Op == 13)) then
                  (impl_isReg p0.A).bind fun x12 =>
                  some (x12 && (p0.B == 0))
                else
                  if ((p0.Op == 9) || (p0.Op == 11)) then
                    some ((p0.A == 0) && ((decide (p0.B ≥ 0)) && (decide (p0.B ≤ p2))))
                  else
                    if (p0.Op == 10) then
                      (impl_isReg p0.A).bind fun x13 =>
                      some (x13 && ((decide (p0.B ≥ 0)) && (decide (p0.B ≤ p2))))
                    else
                      if ((p0.Op == 12) || (p0.Op == 14)) then
                        some ((p0.A == 0) && (p0.B == 0))
                      else
                        some false
        else
          if ((p0.Op == 7) || (p0.Op == 8)) then
            (impl_isReg p0.A).bind fun x14 =>
            (if x14 then (impl_isReg p0.B) else some default).bind fun x15 =>
            some (x14 && x15)
          else
            if (p0.Op == 4) then
              if (p0.Op == 4) then
                (impl_isReg p0.A).bind fun x16 =>
                some (x16 && (p0.B == 0))
              else
                if ((p0.Op == 9) || (p0.Op == 11)) then
                  some ((p0.A == 0) && ((decide (p0.B ≥ 0)) && (decide (p0.B ≤ p2))))
                else
                  if (p0.Op == 10) then
                    (impl_isReg p0.A).bind fun x17 =>
                    some (x17 && ((decide (p0.B ≥ 0)) && (decide (p0.B ≤ p2))))
                  else
                    if ((p0.Op == 12) || (p0.Op == 14)) then
                      some ((p0.A == 0) && (p0.B == 0))
                    else
                      some false
            else
              if (p0.Op == 5) then
                if (p0.Op == 5) then
                  (impl_isReg p0.A).bind fun x18 =>
                  some (x18 && (p0.B == 0))
                else
                  if ((p0.Op == 9) || (p0.Op == 11)) then
                    some ((p0.A == 0) && ((decide (p0.B ≥ 0)) && (decide (p0.B ≤ p2))))
                  else
                    if (p0.Op == 10) then
                      (impl_isReg p0.A).bind fun x19 =>
                      some (x19 && ((decide (p0.B ≥ 0)) && (decide (p0.B ≤ p2))))
                    else
                      if ((p0.Op == 12) || (p0.Op == 14)) then
                        some ((p0.A == 0) && (p0.B == 0))
                      else
                        some false
              else
                if ((p0.Op == 6) || (p0.Op == 13)) then
                  (impl_isReg p0.A).bind fun x20 =>
                  some (x20 && (p0.B == 0))
                else
                  if ((p0.Op == 9) || (p0.Op == 11)) then
                    some ((p0.A == 0) && ((decide (p0.B ≥ 0)) && (decide (p0.B ≤ p2))))
                  else
                    if (p0.Op == 10) then
                      (impl_isReg p0.A).bind fun x21 =>
                      some (x21 && ((decide (p0.B ≥ 0)) && (decide (p0.B ≤ p2))))
                    else
                      if ((p0.Op == 12) || (p0.Op == 14)) then
                        some ((p0.A == 0) && (p0.B == 0))
                      else
                        some false

def impl_ProgramOk (n : Nat) (p0 : D.Program) : Option Bool :=
  (impl_shapeOk p0.W (len p0.Code)).bind fun x1 =>
  (if (((!x1) || (decide (p0.Mem < 1))) || (decide (p0.Mem > 6))) then some default else (impl_WordOk p0.W p0.Mem)).bind fun x2 =>
  if ((((!x1) || (decide (p0.Mem < 1))) || (decide (p0.Mem > 6))) || (!x2)) then
    some false
  else
    if ((decide (p0.In < 0)) || (decide (p0.In > 3))) then
      some false
    else
      (iterN (fun (s1 : Int) =>
        if (decide (s1 < (len p0.Code))) then
          (get? p0.Code s1).bind fun x3 =>
          (impl_insOk x3 p0.W (len p0.Code)).bind fun x4 =>
          if (!x4) then
            some (.inr (.inr false))
          else
            some (.inl ((w64 (s1 + 1))))
        else
          some (.inr (.inl ()))
      ) n (0)).bind fun (rl1 : (Unit) ⊕ Bool) =>
      match rl1 with
      | .inl s1r =>
        some true
      | .inr v => some v

def impl_wordsOk (n : Nat) (p0 : Int) (p1 : List Int) : Option Bool :=
  (iterN (fun (s1 : Int) =>
    if (decide (s1 < (len p1))) then
      (get? p1 s1).bind fun x1 =>
      (impl_WordOk p0 x1).bind fun x2 =>
      if (!x2) then
        some (.inr (.inr false))
      else
        some (.inl ((w64 (s1 + 1))))
    else
      some (.inr (.inl ()))
  ) n (0)).bind fun (rl1 : (Unit) ⊕ Bool) =>
  match rl1 with
  | .inl s1r =>
    some true
  | .inr v => some v

def impl_InputsOk (n : Nat) (p0 : D.Program) (p1 : List Int) : Option Bool :=
  (impl_ProgramOk n p0).bind fun x1 =>
  (if (x1 && ((len p1) == p0.In)) then (impl_wordsOk n p0.W p1) else some default).bind fun x2 =>
  some ((x1 && ((len p1) == p0.In)) && x2)

def impl_fuelOk (p0 : Int) : Option Bool :=
  some ((decide (p0 ≥ 0)) && (decide (p0 ≤ 400)))

def impl_NewState (n : Nat) (p0 : D.Program) : Option D.State :=
  (impl_ProgramOk n p0).bind fun x1 =>
  if (!x1) then
    some (D.State.mk 0 ([] : List Int) ([] : List Int) ([] : List Int) 0 ([] : List Int) 0 0)
  else
    (mk? 4 (0 : Int)).bind fun x2 =>
    (mk? p0.Mem (0 : Int)).bind fun x3 =>
    some (D.State.mk 0 x2 x3 ([] : List Int) 0 ([] : List Int) 0 0)

def impl_State_moves (p0 : D.State) : Option Bool :=
  some ((p0.Code == 0) && (decide (p0.Steps < 400)))

def impl_State_trouble (p0 : D.State) (p1 : D.Program) (p2 : D.Ins) (p3 : List Int) : Option Int :=
  if (p2.Op == 5) then
    if (decide (p0.In ≥ (len p3))) then
      some 3
    else
      some 0
  else
    if (p2.Op == 6) then
      if (decide ((len p0.Out) ≥ 6)) then
        some 4
      else
        some 0
    else
      if (p2.Op == 7) then
        (get? p0.Regs p2.B).bind fun x1 =>
        if (decide (x1 ≥ p1.Mem)) then
          some 5
        else
          some 0
      else
        if (p2.Op == 8) then
          (get? p0.Regs p2.A).bind fun x2 =>
          if (decide (x2 ≥ p1.Mem)) then
            some 5
          else
            some 0
        else
          if (p2.Op == 3) then
            (if ((p2.C == 6) || (p2.C == 7)) then (get? p0.Regs p2.B) else some default).bind fun x3 =>
            if (((p2.C == 6) || (p2.C == 7)) && (x3 == 0)) then
              some 6
            else
              some 0
          else
            if (p2.Op == 11) then
              if (decide ((len p0.Stack) ≥ 3)) then
                some 7
              else
                some 0
            else
              if (p2.Op == 12) then
                if ((len p0.Stack) == 0) then
                  some 7
                else
                  some 0
              else
                if (p2.Op == 13) then
                  (get? p0.Regs p2.A).bind fun x4 =>
                  if (x4 == 0) then
                    some 8
                  else
                    some 0
                else
                  some 0

def impl_WordOf (p0 : Int) (p1 : Int) : Option Int :=
  (impl_isWidth p0).bind fun x1 =>
  if (!x1) then
    some (-1)
  else
    (shl? 1 (IntKind.u64.wrap p0)).bind fun x2 =>
    some (band p1 (w64 (x2 - 1)))

def impl_SignedOf (p0 : Int) (p1 : Int) : Option Int :=
  (impl_WordOk p0 p1).bind fun x1 =>
  if (!x1) then
    some 0
  else
    (shr? p1 (IntKind.u64.wrap (w64 (p0 - 1)))).bind fun x2 =>
    if (x2 == 0) then
      some p1
    else
      (shl? 1 (IntKind.u64.wrap p0)).bind fun x3 =>
      some (w64 (p1 - x3))

def impl_shiftWord (p0 : Int) (p1 : Int) (p2 : Int) (p3 : Int) : Option Int :=
  if (p0 == 13) then
    (impl_SignedOf p1 p2).bind fun x1 =>
    (shr? x1 (IntKind.u64.wrap (imin p3 (w64 (p1 - 1))))).bind fun x2 =>
    (impl_WordOf p1 x2).bind fun x3 =>
    some x3
  else
    if (decide (p3 ≥ p1)) then
      some 0
    else
      if (p0 == 11) then
        (shl? p2 (IntKind.u64.wrap p3)).bind fun x4 =>
        (impl_WordOf p1 x4).bind fun x5 =>
        some x5
      else
        (shr? p2 (IntKind.u64.wrap p3)).bind fun x6 =>
        some x6

def impl_boolWord (p0 : Bool) : Option Int :=
  if p0 then
    some 1
  else
    some 0

def impl_ApplyBinary (p0 : Int) (p1 : Int) (p2 : Int) (p3 : Int) : Option Int :=
  (impl_WordOk p1 p2).bind fun x1 =>
  (if (!x1) then some default else (impl_WordOk p1 p3)).bind fun x2 =>
  if ((!x1) || (!x2)) then
    some (-1)
  else
    if (p0 == 3) then
      (impl_WordOf p1 (w64 (p2 + p3))).bind fun x3 =>
      some x3
    else
      if (p0 == 4) then
        (impl_WordOf p1 (w64 (p2 - p3))).bind fun x4 =>
        some x4
      else
        if (p0 == 5) then
          (impl_WordOf p1 (w64 (p2 * p3))).bind fun x5 =>
          some x5
        else
          if (p0 == 6) then
            if (p3 == 0) then
              (shl? 1 (IntKind.u64.wrap p1)).bind fun x6 =>
              some (w64 (x6 - 1))
            else
              (quo? p2 p3).bind fun x7 =>
              some x7
          else
            if (p0 == 7) then
              if (p3 == 0) then
                some p2
              else
                (rem? p2 p3).bind fun x8 =>
                some x8
            else
              if (p0 == 8) then
                some (band p2 p3)
              else
                if (p0 == 9) then
                  some (bor p2 p3)
                else
                  if (p0 == 10) then
                    some (bxor p2 p3)
                  else
                    if (p0 == 11) then
                      if (p0 == 11) then
                        (impl_shiftWord p0 p1 p2 p3).bind fun x9 =>
                        some x9
                      else
                        if (p0 == 14) then
                          (impl_boolWord (p2 == p3)).bind fun x10 =>
                          some x10
                        else
                          if (p0 == 15) then
                            (impl_boolWord (decide (p2 < p3))).bind fun x11 =>
                            some x11
                          else
                            if (p0 == 16) then
                              (impl_SignedOf p1 p2).bind fun x12 =>
                              (impl_SignedOf p1 p3).bind fun x13 =>
                              (impl_boolWord (decide (x12 < x13))).bind fun x14 =>
                              some x14
                            else
                              some (-1)
                    else
                      if ((p0 == 12) || (p0 == 13)) then
                        (impl_shiftWord p0 p1 p2 p3).bind fun x15 =>
                        some x15
                      else
                        if (p0 == 14) then
                          (impl_boolWord (p2 == p3)).bind fun x16 =>
                          some x16
                        else
                          if (p0 == 15) then
                            (impl_boolWord (decide (p2 < p3))).bind fun x17 =>
                            some x17
                          else
                            if (p0 == 16) then
                              (impl_SignedOf p1 p2).bind fun x18 =>
                              (impl_SignedOf p1 p3).bind fun x19 =>
                              (impl_boolWord (decide (x18 < x19))).bind fun x20 =>
                              some x20
                            else
                              some (-1)

def impl_ApplyUnary (p0 : Int) (p1 : Int) (p2 : Int) : Option Int :=
  (impl_WordOk p1 p2).bind fun x1 =>
  if (!x1) then
    some (-1)
  else
    if (p0 == 1) then
      (shl? 1 (IntKind.u64.wrap p1)).bind fun x2 =>
      some (w64 ((w64 (x2 - 1)) - p2))
    else
      if (p0 == 2) then
        (impl_WordOf p1 (w64 (0 - p2))).bind fun x3 =>
        some x3
      else
        some (-1)

def impl_State_perform (p0 : D.State) (p1 : D.Program) (p2 : D.Ins) (p3 : List Int) : Option D.State :=
  if (p2.Op == 1) then
    (set? p0.Regs p2.A p2.B).bind fun x1 =>
    some (D.State.mk (w64 (p0.Pc + 1)) x1 p0.Mem p0.Stack p0.In p0.Out p0.Code p0.Steps)
  else
    if (p2.Op == 2) then
      (get? p0.Regs p2.B).bind fun x2 =>
      (set? p0.Regs p2.A x2).bind fun x3 =>
      some (D.State.mk (w64 (p0.Pc + 1)) x3 p0.Mem p0.Stack p0.In p0.Out p0.Code p0.Steps)
    else
      if (p2.Op == 3) then
        (get? p0.Regs p2.A).bind fun x4 =>
        (get? p0.Regs p2.B).bind fun x5 =>
        (impl_ApplyBinary p2.C p1.W x4 x5).bind fun x6 =>
        (set? p0.Regs p2.A x6).bind fun x7 =>
        some (D.State.mk (w64 (p0.Pc + 1)) x7 p0.Mem p0.Stack p0.In p0.Out p0.Code p0.Steps)
      else
        if (p2.Op == 4) then
          (get? p0.Regs p2.A).bind fun x8 =>
          (impl_ApplyUnary 1 p1.W x8).bind fun x9 =>
          (set? p0.Regs p2.A x9).bind fun x10 =>
          some (D.State.mk (w64 (p0.Pc + 1)) x10 p0.Mem p0.Stack p0.In p0.Out p0.Code p0.Steps)
        else
          if (p2.Op == 5) then
            (get? p3 p0.In).bind fun x11 =>
            (set? p0.Regs p2.A x11).bind fun x12 =>
            some (D.State.mk (w64 (p0.Pc + 1)) x12 p0.Mem p0.Stack (w64 (p0.In + 1)) p0.Out p0.Code p0.Steps)
          else
            if (p2.Op == 6) then
              (get? p0.Regs p2.A).bind fun x13 =>
              (app? p0.Out ([x13] : List Int)).bind fun x14 =>
              some (D.State.mk (w64 (p0.Pc + 1)) p0.Regs p0.Mem p0.Stack p0.In x14 p0.Code p0.Steps)
            else
              if (p2.Op == 7) then
                (get? p0.Regs p2.B).bind fun x15 =>
                (get? p0.Mem x15).bind fun x16 =>
                (set? p0.Regs p2.A x16).bind fun x17 =>
                some (D.State.mk (w64 (p0.Pc + 1)) x17 p0.Mem p0.Stack p0.In p0.Out p0.Code p0.Steps)
              else
                if (p2.Op == 8) then
                  (get? p0.Regs p2.A).bind fun x18 =>
                  (get? p0.Regs p2.B).bind fun x19 =>
                  (set? p0.Mem x18 x19).bind fun x20 =>
                  some (D.State.mk (w64 (p0.Pc + 1)) p0.Regs x20 p0.Stack p0.In p0.Out p0.Code p0.Steps)
                else
                  if (p2.Op == 9) then
                    some (D.State.mk p2.B p0.Regs p0.Mem p0.Stack p0.In p0.Out p0.Code p0.Steps)
                  else
                    if (p2.Op == 10) then
                      (get? p0.Regs p2.A).bind fun x21 =>
                      if (x21 == 0) then
                        some (D.State.mk p2.B p0.Regs p0.Mem p0.Stack p0.In p0.Out p0.Code p0.Steps)
                      else
                        some (D.State.mk (w64 (p0.Pc + 1)) p0.Regs p0.Mem p0.Stack p0.In p0.Out p0.Code p0.Steps)
                    else
                      if (p2.Op == 11) then
                        (app? p0.Stack ([(w64 (p0.Pc + 1))] : List Int)).bind fun x22 =>
                        some (D.State.mk p2.B p0.Regs p0.Mem x22 p0.In p0.Out p0.Code p0.Steps)
                      else
                        if (p2.Op == 12) then
                          (get? p0.Stack (w64 ((len p0.Stack) - 1))).bind fun x23 =>
                          (cut? p0.Stack 0 (w64 ((len p0.Stack) - 1))).bind fun x24 =>
                          some (D.State.mk x23 p0.Regs p0.Mem x24 p0.In p0.Out p0.Code p0.Steps)
                        else
                          if (p2.Op == 14) then
                            some (D.State.mk p0.Pc p0.Regs p0.Mem p0.Stack p0.In p0.Out 1 p0.Steps)
                          else
                            some (D.State.mk (w64 (p0.Pc + 1)) p0.Regs p0.Mem p0.Stack p0.In p0.Out p0.Code p0.Steps)

def impl_State_step (p0 : D.State) (p1 : D.Program) (p2 : List Int) : Option D.State :=
  (impl_State_moves p0).bind fun x1 =>
  if (!x1) then
    some p0
  else
    if (p0.Pc == (len p1.Code)) then
      some (D.State.mk p0.Pc p0.Regs p0.Mem p0.Stack p0.In p0.Out 2 p0.Steps)
    else
      (get? p1.Code p0.Pc).bind fun x2 =>
      (impl_State_trouble (D.State.mk p0.Pc p0.Regs p0.Mem p0.Stack p0.In p0.Out p0.Code (w64 (p0.Steps + 1))) p1 x2 p2).bind fun x3 =>
      if (x3 != 0) then
        some (D.State.mk p0.Pc p0.Regs p0.Mem p0.Stack p0.In p0.Out x3 (w64 (p0.Steps + 1)))
      else
        (impl_State_perform (D.State.mk p0.Pc p0.Regs p0.Mem p0.Stack p0.In p0.Out p0.Code (w64 (p0.Steps + 1))) p1 x2 p2).bind fun x4 =>
        some x4

def impl_TraceOf (n : Nat) (p0 : D.Program) (p1 : List Int) (p2 : Int) : Option (List Int) :=
  (impl_InputsOk n p0 p1).bind fun x1 =>
  (if (!x1) then some default else (impl_fuelOk p2)).bind fun x2 =>
  if ((!x1) || (!x2)) then
    some ([] : List Int)
  else
    (impl_NewState n p0).bind fun x3 =>
    (iterN (fun (s1 : Int × (List Int) × Int × Int × Int × Int × (List Int) × (List Int) × (List Int) × (List Int)) =>
      if (decide (s1.1 < p2)) then
        (impl_State_moves (D.State.mk s1.2.2.1 s1.2.2.2.2.2.2.1 s1.2.2.2.2.2.2.2.1 s1.2.2.2.2.2.2.2.2.1 s1.2.2.2.1 s1.2.2.2.2.2.2.2.2.2 s1.2.2.2.2.1 s1.2.2.2.2.2.1)).bind fun x4 =>
        if (x4 && (decide (s1.2.2.1 < (len p0.Code)))) then
          (app? s1.2.1 ([s1.2.2.1] : List Int)).bind fun x5 =>
          (impl_State_step (D.State.mk s1.2.2.1 s1.2.2.2.2.2.2.1 s1.2.2.2.2.2.2.2.1 s1.2.2.2.2.2.2.2.2.1 s1.2.2.2.1 s1.2.2.2.2.2.2.2.2.2 s1.2.2.2.2.1 s1.2.2.2.2.2.1) p0 p1).bind fun x6 =>
          some (.inl ((w64 (s1.1 + 1)), x5, x6.Pc, x6.In, x6.Code, x6.Steps, x6.Regs, x6.Mem, x6.Stack, x6.Out))
        else
          (impl_State_step (D.State.mk s1.2.2.1 s1.2.2.2.2.2.2.1 s1.2.2.2.2.2.2.2.1 s1.2.2.2.2.2.2.2.2.1 s1.2.2.2.1 s1.2.2.2.2.2.2.2.2.2 s1.2.2.2.2.1 s1.2.2.2.2.2.1) p0 p1).bind fun x7 =>
          some (.inl ((w64 (s1.1 + 1)), s1.2.1, x7.Pc, x7.In, x7.Code, x7.Steps, x7.Regs, x7.Mem, x7.Stack, x7.Out))
      else
        some (.inr (s1.2.1))
    ) n (0, ([] : List Int), x3.Pc, x3.In, x3.Code, x3.Steps, x3.Regs, x3.Mem, x3.Stack, x3.Out)).bind fun (rl1 : (List Int)) =>
    some rl1

def laws_eqIntS (n : Nat) (p0 : List Int) (p1 : List Int) : Option Bool :=
  if ((len p0) != (len p1)) then
    some false
  else
    (iterN (fun (s1 : Int) =>
      if (decide (s1 < (len p0))) then
        (get? p0 s1).bind fun x1 =>
        (get? p1 s1).bind fun x2 =>
        if (x1 != x2) then
          some (.inr (.inr false))
        else
          some (.inl ((w64 (s1 + 1))))
      else
        some (.inr (.inl ()))
    ) n (0)).bind fun (rl1 : (Unit) ⊕ Bool) =>
    match rl1 with
    | .inl s1r =>
      some true
    | .inr v => some v

def laws_eqIns (p0 : D.Ins) (p1 : D.Ins) : Option Bool :=
  if (p0.Op != p1.Op) then
    some false
  else
    if (p0.A != p1.A) then
      some false
    else
      if (p0.B != p1.B) then
        some false
      else
        if (p0.C != p1.C) then
          some false
        else
          some true

def laws_eqInsS (n : Nat) (p0 : List D.Ins) (p1 : List D.Ins) : Option Bool :=
  if ((len p0) != (len p1)) then
    some false
  else
    (iterN (fun (s1 : Int) =>
      if (decide (s1 < (len p0))) then
        (get? p0 s1).bind fun x1 =>
        (get? p1 s1).bind fun x2 =>
        (laws_eqIns x1 x2).bind fun x3 =>
        if (!x3) then
          some (.inr (.inr false))
        else
          some (.inl ((w64 (s1 + 1))))
      else
        some (.inr (.inl ()))
    ) n (0)).bind fun (rl1 : (Unit) ⊕ Bool) =>
    match rl1 with
    | .inl s1r =>
      some true
    | .inr v => some v

def laws_eqProgram (n : Nat) (p0 : D.Program) (p1 : D.Program) : Option Bool :=
  if (p0.W != p1.W) then
    some false
  else
    if (p0.Mem != p1.Mem) then
      some false
    else
      if (p0.In != p1.In) then
        some false
      else
        (laws_eqInsS n p0.Code p1.Code).bind fun x1 =>
        if (!x1) then
          some false
        else
          some true

def laws_markInsS (n : Nat) (p0 : List D.Ins) (p1 : Int) : Option (Int × (List D.Ins)) :=
  (iterN (fun (s1 : Int × Int × (List D.Ins)) =>
    if (decide (s1.2.1 < (len p0))) then
      (get? s1.2.2 s1.2.1).bind fun x1 =>
      (set? s1.2.2 s1.2.1 ({ x1 with Op := s1.1 } : D.Ins)).bind fun x2 =>
      (get? x2 s1.2.1).bind fun x3 =>
      (set? x2 s1.2.1 ({ x3 with A := (w64 (s1.1 + 1)) } : D.Ins)).bind fun x4 =>
      (get? x4 s1.2.1).bind fun x5 =>
      (set? x4 s1.2.1 ({ x5 with B := (w64 ((w64 (s1.1 + 1)) + 1)) } : D.Ins)).bind fun x6 =>
      (get? x6 s1.2.1).bind fun x7 =>
      (set? x6 s1.2.1 ({ x7 with C := (w64 ((w64 ((w64 (s1.1 + 1)) + 1)) + 1)) } : D.Ins)).bind fun x8 =>
      some (.inl ((w64 ((w64 ((w64 ((w64 (s1.1 + 1)) + 1)) + 1)) + 1)), (w64 (s1.2.1 + 1)), x8))
    else
      some (.inr (s1.1, s1.2.2))
  ) n (p1, 0, p0)).bind fun (rl1 : Int × (List D.Ins)) =>
  some (rl1.1, rl1.2)

def laws_markProgram (n : Nat) (p0 : D.Program) (p1 : Int) : Option (Int × D.Program) :=
  (laws_markInsS n p0.Code p1).bind fun x1 =>
  some (x1.1, (D.Program.mk p0.W p0.Mem p0.In x1.2))

def laws_markIntS (n : Nat) (p0 : List Int) (p1 : Int) : Option (Int × (List Int)) :=
  (iterN (fun (s1 : Int × Int × (List Int)) =>
    if (decide (s1.2.1 < (len p0))) then
      (set? s1.2.2 s1.2.1 s1.1).bind fun x1 =>
      some (.inl ((w64 (s1.1 + 1)), (w64 (s1.2.1 + 1)), x1))
    else
      some (.inr (s1.1, s1.2.2))
  ) n (p1, 0, p0)).bind fun (rl1 : Int × (List Int)) =>
  some (rl1.1, rl1.2)

def laws_heldIntS (n : Nat) (p0 : List Int) (p1 : Int) : Option Int :=
  (iterN (fun (s1 : Int × Int) =>
    if (decide (s1.2 < (len p0))) then
      (get? p0 s1.2).bind fun x1 =>
      if (x1 != s1.1) then
        some (.inr (.inr (-1)))
      else
        some (.inl ((w64 (s1.1 + 1)), (w64 (s1.2 + 1))))
    else
      some (.inr (.inl (s1.1)))
  ) n (p1, 0)).bind fun (rl1 : (Int) ⊕ Int) =>
  match rl1 with
  | .inl s1r =>
    some s1r
  | .inr v => some v

def laws_FnExactTraceOf (n : Nat) (p0 : D.Program) (p1 : List Int) (p2 : Int) : Option Bool :=
  if (decide ((len p1) > 1048576)) then
    some true
  else
    (laws_szProgram p0 1048576).bind fun x1 =>
    if (decide (x1 < 0)) then
      some true
    else
      (laws_toProgram n p0).bind fun x2 =>
      (laws_toIntS n p1).bind fun x3 =>
      (spec_TraceOf n x2 x3 p2).bind fun x4 =>
      (laws_toProgram n p0).bind fun x5 =>
      (laws_toIntS n p1).bind fun x6 =>
      (impl_TraceOf n x5 x6 p2).bind fun x7 =>
      (laws_eqIntS n x7 x4).bind fun x8 =>
      if (!x8) then
        some false
      else
        (laws_toProgram n p0).bind fun x9 =>
        (laws_eqProgram n x5 x9).bind fun x10 =>
        if (!x10) then
          some false
        else
          (laws_toIntS n p1).bind fun x11 =>
          (laws_eqIntS n x6 x11).bind fun x12 =>
          if (!x12) then
            some false
          else
            (laws_markProgram n x5 1).bind fun x13 =>
            (laws_markIntS n x6 x13.1).bind fun x14 =>
            (if (decide (x14.1 < 0)) then some default else (laws_eqIntS n x7 x4)).bind fun x15 =>
            if ((decide (x14.1 < 0)) || (!x15)) then
              some false
            else
              (laws_markIntS n x7 1).bind fun x16 =>
              (laws_heldIntS n x16.2 1).bind fun x17 =>
              if (decide (x17 < 0)) then
                some false
              else
                if (x17 != x16.1) then
                  some false
                else
                  (laws_toProgram n p0).bind fun x18 =>
                  (laws_toIntS n p1).bind fun x19 =>
                  (impl_TraceOf n x18 x19 p2).bind fun x20 =>
                  (laws_eqIntS n x20 x4).bind fun x21 =>
                  if (!x21) then
                    some false
                  else
                    (laws_heldIntS n x16.2 1).bind fun x22 =>
                    if (decide (x22 < 0)) then
                      some false
                    else
                      if (x22 != x16.1) then
                        some false
                      else
                        some true
end Go.GL
