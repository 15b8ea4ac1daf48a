/- Printed by gen2.py: Go functions as Lean functions. -/
import Derived.Test.YtmmhbhhcloobnaaGreatDoorGLp
import Derived.Lib.ItoaNum
import Derived.Lib.Join
import Derived.Lib.Split
import Derived.Lib.AtoiAll
set_option linter.unusedVariables false
namespace Go.GL
def spec_SplitLines (n : Nat) (p0 : Str) : Option (List Str) :=
  (iterN (fun (s1 : Int × Int × (List Str)) =>
    if (decide (s1.2.1 < (len p0.bytes))) then
      (sidx? p0 s1.2.1).bind fun x1 =>
      if (x1 == 10) then
        (scut? p0 s1.1 s1.2.1).bind fun x2 =>
        (app? s1.2.2 ([x2] : List Str)).bind fun x3 =>
        some (.inl ((w64 (s1.2.1 + 1)), (w64 (s1.2.1 + 1)), x3))
      else
        some (.inl (s1.1, (w64 (s1.2.1 + 1)), s1.2.2))
    else
      some (.inr (s1.1, s1.2.2))
  ) n (0, 0, ([] : List Str))).bind fun (rl1 : Int × (List Str)) =>
  if (decide (rl1.1 < (len p0.bytes))) then
    (scut? p0 rl1.1 (len p0.bytes)).bind fun x4 =>
    (app? rl1.2 ([x4] : List Str)).bind fun x5 =>
    some x5
  else
    some rl1.2

def spec_l01In (p0 : Int) (p1 : Int) (p2 : Int) : Option Bool :=
  some ((decide (p0 ≥ p1)) && (decide (p0 ≤ p2)))

def spec_Words (n : Nat) (p0 : Str) : Option (List Str) :=
  (iterN (fun (s1 : Int × Int × (List Str)) =>
    if (decide (s1.2.1 ≤ (len p0.bytes))) then
      (if (s1.2.1 == (len p0.bytes)) then some default else (sidx? p0 s1.2.1)).bind fun x1 =>
      if (((s1.2.1 == (len p0.bytes)) || (x1 == 32)) && (decide (s1.1 ≥ 0))) then
        (scut? p0 s1.1 s1.2.1).bind fun x2 =>
        (app? s1.2.2 ([x2] : List Str)).bind fun x3 =>
        some (.inl ((cond ((!((s1.2.1 == (len p0.bytes)) || (x1 == 32))) && (decide ((-1) < 0))) s1.2.1 (-1)), (w64 (s1.2.1 + 1)), x3))
      else
        some (.inl ((cond ((!((s1.2.1 == (len p0.bytes)) || (x1 == 32))) && (decide (s1.1 < 0))) s1.2.1 s1.1), (w64 (s1.2.1 + 1)), s1.2.2))
    else
      some (.inr (s1.2.2))
  ) n ((-1), 0, ([] : List Str))).bind fun (rl1 : (List Str)) =>
  some rl1

def spec_Join (n : Nat) (p0 : List Str) (p1 : Str) : Option Str :=
  (iterN (fun (s1 : Str × Int) =>
    if (decide (s1.2 < (len p0))) then
      (get? p0 s1.2).bind fun x1 =>
      if (decide (s1.2 > 0)) then
        (cat? s1.1 p1).bind fun x2 =>
        (cat? x2 x1).bind fun x3 =>
        some (.inl (x3, (w64 (s1.2 + 1))))
      else
        (cat? s1.1 x1).bind fun x4 =>
        some (.inl (x4, (w64 (s1.2 + 1))))
    else
      some (.inr (s1.1))
  ) n (⟨[]⟩, 0)).bind fun (rl1 : Str) =>
  some rl1

def spec_FormatInt (n : Nat) (p0 : Int) : Option Str :=
  match n with
  | 0 => none
  | n + 1 =>
  if (decide (p0 < 0)) then
    (quo? p0 10).bind fun x1 =>
    if (x1 == 0) then
      (cat? (⟨[45]⟩) (strOf ([(Byt.mk (IntKind.u8.wrap (w64 (48 - p0))))] : List Byt))).bind fun x2 =>
      some x2
    else
      (quo? p0 10).bind fun x3 =>
      (spec_FormatInt n x3).bind fun x4 =>
      (rem? p0 10).bind fun x5 =>
      (cat? x4 (strOf ([(Byt.mk (IntKind.u8.wrap (w64 (48 - x5))))] : List Byt))).bind fun x6 =>
      some x6
  else
    (iterN (fun (s1 : Int × Str) =>
      if (decide (s1.1 > 9)) then
        (rem? s1.1 10).bind fun x7 =>
        (cat? (strOf ([(Byt.mk (IntKind.u8.wrap (w64 (48 + x7))))] : List Byt)) s1.2).bind fun x8 =>
        (quo? s1.1 10).bind fun x9 =>
        some (.inl (x9, x8))
      else
        some (.inr (s1.1, s1.2))
    ) n (p0, ⟨[]⟩)).bind fun (rl1 : Int × Str) =>
    (cat? (strOf ([(Byt.mk (IntKind.u8.wrap (w64 (48 + rl1.1))))] : List Byt)) rl1.2).bind fun x10 =>
    some x10


def spec_ParseInt (n : Nat) (p0 : Str) : Option (Int × Bool) :=
  (if (decide ((len p0.bytes) > 0)) then (sidx? p0 0) else some default).bind fun x1 =>
  if ((decide ((len p0.bytes) > 0)) && (x1 == 45)) then
    (scut? p0 1 (len p0.bytes)).bind fun x2 =>
    if ((decide ((len x2.bytes) < 1)) || (decide ((len x2.bytes) > 19))) then
      some (0, false)
    else
      (iterN (fun (s1 : Int × Int) =>
        if (decide (s1.2 < (len x2.bytes))) then
          (sidx? x2 s1.2).bind fun x3 =>
          (spec_l01In (w64 ((w64 x3) - 48)) 0 9).bind fun x4 =>
          (if (!x4) then some default else (quo? (w64 ((-9223372036854775808) + (w64 ((w64 x3) - 48)))) 10)).bind fun x5 =>
          if ((!x4) || (decide (s1.1 < x5))) then
            some (.inr (.inr (0, false)))
          else
            some (.inl ((w64 ((w64 (s1.1 * 10)) - (w64 ((w64 x3) - 48)))), (w64 (s1.2 + 1))))
        else
          some (.inr (.inl (s1.1)))
      ) n (0, 0)).bind fun (rl1 : (Int) ⊕ (Int × Bool)) =>
      match rl1 with
      | .inl s1r =>
        if (!((decide ((len p0.bytes) > 0)) && (x1 == 45))) then
          if (s1r == (-9223372036854775808)) then
            some (0, false)
          else
            (spec_FormatInt n (w64 (0 - s1r))).bind fun x6 =>
            if (!(Str.eqb x6 p0)) then
              some (0, false)
            else
              some ((w64 (0 - s1r)), true)
        else
          (spec_FormatInt n s1r).bind fun x7 =>
          if (!(Str.eqb x7 p0)) then
            some (0, false)
          else
            some (s1r, true)
      | .inr v => some v
  else
    if ((decide ((len p0.bytes) < 1)) || (decide ((len p0.bytes) > 19))) then
      some (0, false)
    else
      (iterN (fun (s2 : Int × Int) =>
        if (decide (s2.2 < (len p0.bytes))) then
          (sidx? p0 s2.2).bind fun x8 =>
          (spec_l01In (w64 ((w64 x8) - 48)) 0 9).bind fun x9 =>
          (if (!x9) then some default else (quo? (w64 ((-9223372036854775808) + (w64 ((w64 x8) - 48)))) 10)).bind fun x10 =>
          if ((!x9) || (decide (s2.1 < x10))) then
            some (.inr (.inr (0, false)))
          else
            some (.inl ((w64 ((w64 (s2.1 * 10)) - (w64 ((w64 x8) - 48)))), (w64 (s2.2 + 1))))
        else
          some (.inr (.inl (s2.1)))
      ) n (0, 0)).bind fun (rl2 : (Int) ⊕ (Int × Bool)) =>
      match rl2 with
      | .inl s2r =>
        if (!((decide ((len p0.bytes) > 0)) && (x1 == 45))) then
          if (s2r == (-9223372036854775808)) then
            some (0, false)
          else
            (spec_FormatInt n (w64 (0 - s2r))).bind fun x11 =>
            if (!(Str.eqb x11 p0)) then
              some (0, false)
            else
              some ((w64 (0 - s2r)), true)
        else
          (spec_FormatInt n s2r).bind fun x12 =>
          if (!(Str.eqb x12 p0)) then
            some (0, false)
          else
            some (s2r, true)
      | .inr v => some v

def spec_ParseInts (n : Nat) (p0 : Str) : Option ((List Int) × Bool) :=
  (iterN (fun (s1 : Int × Int × (List Int)) =>
    if ((decide (s1.2.1 ≤ (len p0.bytes))) && (decide ((len p0.bytes) > 0))) then
      (if (s1.2.1 == (len p0.bytes)) then some default else (sidx? p0 s1.2.1)).bind fun x1 =>
      if ((s1.2.1 == (len p0.bytes)) || (x1 == 32)) then
        (scut? p0 s1.1 s1.2.1).bind fun x2 =>
        (spec_ParseInt n x2).bind fun x3 =>
        if (!x3.2) then
          some (.inr (.inr (([] : List Int), false)))
        else
          (app? s1.2.2 ([x3.1] : List Int)).bind fun x4 =>
          some (.inl ((w64 (s1.2.1 + 1)), (w64 (s1.2.1 + 1)), x4))
      else
        some (.inl (s1.1, (w64 (s1.2.1 + 1)), s1.2.2))
    else
      some (.inr (.inl (s1.2.2)))
  ) n (0, 0, ([] : List Int))).bind fun (rl1 : ((List Int)) ⊕ ((List Int) × Bool)) =>
  match rl1 with
  | .inl s1r =>
    some (s1r, true)
  | .inr v => some v

def spec_l01Names : Option (List Str) :=
  some ([⟨[]⟩, ⟨[110, 111, 116]⟩, ⟨[110, 101, 103]⟩, ⟨[97, 100, 100]⟩, ⟨[115, 117, 98]⟩, ⟨[109, 117, 108]⟩, ⟨[100, 105, 118]⟩, ⟨[114, 101, 109]⟩, ⟨[97, 110, 100]⟩, ⟨[111, 114]⟩, ⟨[120, 111, 114]⟩, ⟨[115, 104, 108]⟩, ⟨[115, 104, 114]⟩, ⟨[115, 97, 114]⟩, ⟨[101, 113]⟩, ⟨[108, 101, 115, 115]⟩, ⟨[98, 101, 108, 111, 119]⟩] : List Str)

def spec_OpName (p0 : Int) : Option Str :=
  (spec_l01In p0 1 16).bind fun x1 =>
  if (!x1) then
    some (⟨[]⟩)
  else
    (spec_l01Names).bind fun x2 =>
    (get? x2 p0).bind fun x3 =>
    some x3

def spec_l05Word (p0 : D.Ins) : Option Str :=
  if (p0.Op == 3) then
    (spec_OpName p0.C).bind fun x1 =>
    some x1
  else
    (get? ([⟨[]⟩, ⟨[115, 101, 116]⟩, ⟨[109, 111, 118, 101]⟩, ⟨[]⟩, ⟨[110, 111, 116]⟩, ⟨[105, 110]⟩, ⟨[111, 117, 116]⟩, ⟨[108, 111, 97, 100]⟩, ⟨[115, 116, 111, 114, 101]⟩, ⟨[106, 117, 109, 112]⟩, ⟨[122, 101, 114, 111]⟩, ⟨[99, 97, 108, 108]⟩, ⟨[114, 101, 116]⟩, ⟨[99, 104, 101, 99, 107]⟩, ⟨[104, 97, 108, 116]⟩] : List Str) p0.Op).bind fun x2 =>
    some x2

def spec_OpOf (n : Nat) (p0 : Str) : Option Int :=
  (spec_l01Names).bind fun x1 =>
  (iterN (fun (s1 : Int) =>
    if (decide (s1 < (len x1))) then
      (get? x1 s1).bind fun x2 =>
      if (Str.eqb x2 p0) then
        some (.inr (.inr s1))
      else
        some (.inl ((w64 (s1 + 1))))
    else
      some (.inr (.inl ()))
  ) n (0)).bind fun (rl1 : (Unit) ⊕ Int) =>
  match rl1 with
  | .inl s1r =>
    some 0
  | .inr v => some v

def spec_l05Number (n : Nat) (p0 : Str) : Option Int :=
  (if (decide ((len p0.bytes) > 0)) then (sidx? p0 0) else some default).bind fun x1 =>
  if ((decide ((len p0.bytes) > 0)) && (x1 == 114)) then
    (scut? p0 1 (len p0.bytes)).bind fun x2 =>
    (spec_ParseInt n x2).bind fun x3 =>
    some x3.1
  else
    (spec_ParseInt n p0).bind fun x4 =>
    some x4.1

def spec_l05Reg (p0 : Int) : Option Bool :=
  (spec_l01In p0 0 3).bind fun x1 =>
  some x1

def spec_WordOk (p0 : Int) (p1 : Int) : Option Bool :=
  (spec_l01In p0 1 16).bind fun x1 =>
  (if x1 then (shl? 1 p0) else some default).bind fun x2 =>
  (if x1 then (spec_l01In p1 0 (w64 (x2 - 1))) else some default).bind fun x3 =>
  some (x1 && x3)

def spec_l05Ins (p0 : D.Ins) (p1 : Int) (p2 : Int) : Option Bool :=
  (spec_l01In p0.B 0 p2).bind fun x1 =>
  if (p0.Op == 1) then
    (spec_l05Reg p0.A).bind fun x2 =>
    (if x2 then (spec_WordOk p1 p0.B) else some default).bind fun x3 =>
    some ((x2 && x3) && (p0.C == 0))
  else
    if (p0.Op == 2) then
      if (p0.Op == 2) then
        (spec_l05Reg p0.A).bind fun x4 =>
        (if x4 then (spec_l05Reg p0.B) else some default).bind fun x5 =>
        some ((x4 && x5) && (p0.C == 0))
      else
        if (p0.Op == 3) then
          (spec_l05Reg p0.A).bind fun x6 =>
          (if x6 then (spec_l05Reg p0.B) else some default).bind fun x7 =>
          (if (x6 && x7) then (spec_l01In p0.C 3 16) else some default).bind fun x8 =>
          some ((x6 && x7) && x8)
        else
          if (p0.Op == 4) then
            if (p0.Op == 4) then
              (spec_l05Reg p0.A).bind fun x9 =>
              some ((x9 && (p0.B == 0)) && (p0.C == 0))
            else
              if ((p0.Op == 9) || (p0.Op == 11)) then
                some (((p0.A == 0) && x1) && (p0.C == 0))
              else
                if (p0.Op == 10) then
                  (spec_l05Reg p0.A).bind fun x10 =>
                  some ((x10 && x1) && (p0.C == 0))
                else
                  if ((p0.Op == 12) || (p0.Op == 14)) then
                    some (((p0.A == 0) && (p0.B == 0)) && (p0.C == 0))
                  else
                    some false
          else
            if (p0.Op == 5) then
              if (p0.Op == 5) then
                (spec_l05Reg p0.A).bind fun x11 =>
                some ((x11 && (p0.B == 0)) && (p0.C == 0))
              else
                if ((p0.Op == 9) || (p0.Op == 11)) then
                  some (((p0.A == 0) && x1) && (p0.C == 0))
                else
                  if (p0.Op == 10) then
                    (spec_l05Reg p0.A).bind fun x12 =>
                    some ((x12 && x1) && (p0.C == 0))
                  else
                    if ((p0.Op == 12) || (p0.Op == 14)) then
                      some (((p0.A == 0) && (p0.B == 0)) && (p0.C == 0))
                    else
                      some false
            else
              if ((p0.Op == 6) || (p0.Op == 13)) then
                (spec_l05Reg p0.A).bind fun x13 =>
                some ((x13 && (p0.B == 0)) && (p0.C == 0))
              else
                if ((p0.Op == 9) || (p0.Op == 11)) then
                  some (((p0.A == 0) && x1) && (p0.C == 0))
                else
                  if (p0.Op == 10) then
                    (spec_l05Reg p0.A).bind fun x14 =>
                    some ((x14 && x1) && (p0.C == 0))
                  else
                    if ((p0.Op == 12) || (p0.Op == 14)) then
                      some (((p0.A == 0) && (p0.B == 0)) && (p0.C == 0))
                    else
                      some false
    else
      if ((p0.Op == 7) || (p0.Op == 8)) then
        (spec_l05Reg p0.A).bind fun x15 =>
        (if x15 then (spec_l05Reg p0.B) else some default).bind fun x16 =>
        some ((x15 && x16) && (p0.C == 0))
      else
        if (p0.Op == 3) then
          (spec_l05Reg p0.A).bind fun x17 =>
          (if x17 then (spec_l05Reg p0.B) else some default).bind fun x18 =>
          (if (x17 && x18) then (spec_l01In p0.C 3 16) else some default).bind fun x19 =>
          some ((x17 && x18) && x19)
        else
          if (p0.Op == 4) then
            if (p0.Op == 4) then
              (spec_l05Reg p0.A).bind fun x20 =>
              some ((x20 && (p0.B == 0)) && (p0.C == 0))
            else
              if ((p0.Op == 9) || (p0.Op == 11)) then
                some (((p0.A == 0) && x1) && (p0.C == 0))
              else
                if (p0.Op == 10) then
                  (spec_l05Reg p0.A).bind fun x21 =>
                  some ((x21 && x1) && (p0.C == 0))
                else
                  if ((p0.Op == 12) || (p0.Op == 14)) then
                    some (((p0.A == 0) && (p0.B == 0)) && (p0.C == 0))
                  else
                    some false
          else
            if (p0.Op == 5) then
              if (p0.Op == 5) then
                (spec_l05Reg p0.A).bind fun x22 =>
                some ((x22 && (p0.B == 0)) && (p0.C == 0))
              else
                if ((p0.Op == 9) || (p0.Op == 11)) then
                  some (((p0.A == 0) && x1) && (p0.C == 0))
                else
                  if (p0.Op == 10) then
                    (spec_l05Reg p0.A).bind fun x23 =>
                    some ((x23 && x1) && (p0.C == 0))
                  else
                    if ((p0.Op == 12) || (p0.Op == 14)) then
                      some (((p0.A == 0) && (p0.B == 0)) && (p0.C == 0))
                    else
                      some false
            else
              if ((p0.Op == 6) || (p0.Op == 13)) then
                (spec_l05Reg p0.A).bind fun x24 =>
                some ((x24 && (p0.B == 0)) && (p0.C == 0))
              else
                if ((p0.Op == 9) || (p0.Op == 11)) then
                  some (((p0.A == 0) && x1) && (p0.C == 0))
                else
                  if (p0.Op == 10) then
                    (spec_l05Reg p0.A).bind fun x25 =>
                    some ((x25 && x1) && (p0.C == 0))
                  else
                    if ((p0.Op == 12) || (p0.Op == 14)) then
                      some (((p0.A == 0) && (p0.B == 0)) && (p0.C == 0))
                    else
                      some false

def spec_l05RegName (n : Nat) (p0 : Int) : Option Str :=
  (spec_FormatInt n p0).bind fun x1 =>
  (cat? (⟨[114]⟩) x1).bind fun x2 =>
  some x2

def spec_FormatIns (n : Nat) (p0 : D.Ins) (p1 : Int) (p2 : Int) : Option Str :=
  (spec_l01In p1 2 8).bind fun x1 =>
  (if (!x1) then some default else (spec_l01In p2 1 40)).bind fun x2 =>
  (if ((!x1) || (!x2)) then some default else (spec_l05Ins p0 p1 p2)).bind fun x3 =>
  if (((!x1) || (!x2)) || (!x3)) then
    some (⟨[]⟩)
  else
    (spec_l05RegName n p0.A).bind fun x4 =>
    (spec_FormatInt n p0.B).bind fun x5 =>
    (spec_l05Word p0).bind fun x6 =>
    if ((p0.Op == 1) || (p0.Op == 10)) then
      (app? ([x6] : List Str) ([x4, x5] : List Str)).bind fun x7 =>
      (spec_Join n x7 (⟨[32]⟩)).bind fun x8 =>
      some x8
    else
      if (p0.Op == 2) then
        if (p0.Op == 2) then
          (spec_l05RegName n p0.B).bind fun x9 =>
          (app? ([x6] : List Str) ([x4, x9] : List Str)).bind fun x10 =>
          (spec_Join n x10 (⟨[32]⟩)).bind fun x11 =>
          some x11
        else
          if (p0.Op == 4) then
            if (p0.Op == 4) then
              (app? ([x6] : List Str) ([x4] : List Str)).bind fun x12 =>
              (spec_Join n x12 (⟨[32]⟩)).bind fun x13 =>
              some x13
            else
              if ((p0.Op == 9) || (p0.Op == 11)) then
                (app? ([x6] : List Str) ([x5] : List Str)).bind fun x14 =>
                (spec_Join n x14 (⟨[32]⟩)).bind fun x15 =>
                some x15
              else
                (spec_Join n ([x6] : List Str) (⟨[32]⟩)).bind fun x16 =>
                some x16
          else
            if (p0.Op == 5) then
              if (p0.Op == 5) then
                (app? ([x6] : List Str) ([x4] : List Str)).bind fun x17 =>
                (spec_Join n x17 (⟨[32]⟩)).bind fun x18 =>
                some x18
              else
                if ((p0.Op == 9) || (p0.Op == 11)) then
                  (app? ([x6] : List Str) ([x5] : List Str)).bind fun x19 =>
                  (spec_Join n x19 (⟨[32]⟩)).bind fun x20 =>
                  some x20
                else
                  (spec_Join n ([x6] : List Str) (⟨[32]⟩)).bind fun x21 =>
                  some x21
            else
              if ((p0.Op == 6) || (p0.Op == 13)) then
                (app? ([x6] : List Str) ([x4] : List Str)).bind fun x22 =>
                (spec_Join n x22 (⟨[32]⟩)).bind fun x23 =>
                some x23
              else
                if ((p0.Op == 9) || (p0.Op == 11)) then
                  (app? ([x6] : List Str) ([x5] : List Str)).bind fun x24 =>
                  (spec_Join n x24 (⟨[32]⟩)).bind fun x25 =>
                  some x25
                else
                  (spec_Join n ([x6] : List Str) (⟨[32]⟩)).bind fun x26 =>
                  some x26
      else
        if (p0.Op == 3) then
          if (p0.Op == 3) then
            (spec_l05RegName n p0.B).bind fun x27 =>
            (app? ([x6] : List Str) ([x4, x27] : List Str)).bind fun x28 =>
            (spec_Join n x28 (⟨[32]⟩)).bind fun x29 =>
            some x29
          else
            if (p0.Op == 4) then
              if (p0.Op == 4) then
                (app? ([x6] : List Str) ([x4] : List Str)).bind fun x30 =>
                (spec_Join n x30 (⟨[32]⟩)).bind fun x31 =>
                some x31
              else
                if ((p0.Op == 9) || (p0.Op == 11)) then
                  (app? ([x6] : List Str) ([x5] : List Str)).bind fun x32 =>
                  (spec_Join n x32 (⟨[32]⟩)).bind fun x33 =>
                  some x33
                else
                  (spec_Join n ([x6] : List Str) (⟨[32]⟩)).bind fun x34 =>
                  some x34
            else
              if (p0.Op == 5) then
                if (p0.Op == 5) then
                  (app? ([x6] : List Str) ([x4] : List Str)).bind fun x35 =>
                  (spec_Join n x35 (⟨[32]⟩)).bind fun x36 =>
                  some x36
                else
                  if ((p0.Op == 9) || (p0.Op == 11)) then
                    (app? ([x6] : List Str) ([x5] : List Str)).bind fun x37 =>
                    (spec_Join n x37 (⟨[32]⟩)).bind fun x38 =>
                    some x38
                  else
                    (spec_Join n ([x6] : List Str) (⟨[32]⟩)).bind fun x39 =>
                    some x39
              else
                if ((p0.Op == 6) || (p0.Op == 13)) then
                  (app? ([x6] : List Str) ([x4] : List Str)).bind fun x40 =>
                  (spec_Join n x40 (⟨[32]⟩)).bind fun x41 =>
                  some x41
                else
                  if ((p0.Op == 9) || (p0.Op == 11)) then
                    (app? ([x6] : List Str) ([x5] : List Str)).bind fun x42 =>
                    (spec_Join n x42 (⟨[32]⟩)).bind fun x43 =>
                    some x43
                  else
                    (spec_Join n ([x6] : List Str) (⟨[32]⟩)).bind fun x44 =>
                    some x44
        else
          if ((p0.Op == 7) || (p0.Op == 8)) then
            (spec_l05RegName n p0.B).bind fun x45 =>
            (app? ([x6] : List Str) ([x4, x45] : List Str)).bind fun x46 =>
            (spec_Join n x46 (⟨[32]⟩)).bind fun x47 =>
            some x47
          else
            if (p0.Op == 4) then
              if (p0.Op == 4) then
                (app? ([x6] : List Str) ([x4] : List Str)).bind fun x48 =>
                (spec_Join n x48 (⟨[32]⟩)).bind fun x49 =>
                some x49
              else
                if ((p0.Op == 9) || (p0.Op == 11)) then
                  (app? ([x6] : List Str) ([x5] : List Str)).bind fun x50 =>
                  (spec_Join n x50 (⟨[32]⟩)).bind fun x51 =>
                  some x51
                else
                  (spec_Join n ([x6] : List Str) (⟨[32]⟩)).bind fun x52 =>
                  some x52
            else
              if (p0.Op == 5) then
                if (p0.Op == 5) then
                  (app? ([x6] : List Str) ([x4] : List Str)).bind fun x53 =>
                  (spec_Join n x53 (⟨[32]⟩)).bind fun x54 =>
                  some x54
                else
                  if ((p0.Op == 9) || (p0.Op == 11)) then
                    (app? ([x6] : List Str) ([x5] : List Str)).bind fun x55 =>
                    (spec_Join n x55 (⟨[32]⟩)).bind fun x56 =>
                    some x56
                  else
                    (spec_Join n ([x6] : List Str) (⟨[32]⟩)).bind fun x57 =>
                    some x57
              else
                if ((p0.Op == 6) || (p0.Op == 13)) then
                  (app? ([x6] : List Str) ([x4] : List Str)).bind fun x58 =>
                  (spec_Join n x58 (⟨[32]⟩)).bind fun x59 =>
                  some x59
                else
                  if ((p0.Op == 9) || (p0.Op == 11)) then
                    (app? ([x6] : List Str) ([x5] : List Str)).bind fun x60 =>
                    (spec_Join n x60 (⟨[32]⟩)).bind fun x61 =>
                    some x61
                  else
                    (spec_Join n ([x6] : List Str) (⟨[32]⟩)).bind fun x62 =>
                    some x62

def spec_ParseIns (n : Nat) (p0 : Str) (p1 : Int) (p2 : Int) : Option (D.Ins × Bool) :=
  (spec_Words n p0).bind fun x1 =>
  if (((len x1) == 0) || (decide ((len x1) > 3))) then
    some ((D.Ins.mk 0 0 0 0), false)
  else
    (iterN (fun (s1 : Int × Int) =>
      if (decide (s1.1 ≤ 14)) then
        (if (s1.1 != 3) then (spec_l05Word (D.Ins.mk s1.1 0 0 0)) else some default).bind fun x2 =>
        (if (s1.1 != 3) then (get? x1 0) else some default).bind fun x3 =>
        if ((s1.1 != 3) && (Str.eqb x2 x3)) then
          some (.inl ((w64 (s1.1 + 1)), s1.1))
        else
          some (.inl ((w64 (s1.1 + 1)), s1.2))
      else
        some (.inr (s1.2))
    ) n (1, 0)).bind fun (rl1 : Int) =>
    (if (rl1 == 0) then (get? x1 0) else some default).bind fun x4 =>
    (if (rl1 == 0) then (spec_OpOf n x4) else some default).bind fun x5 =>
    if ((rl1 == 0) && (decide (x5 ≥ 3))) then
      (get? x1 0).bind fun x6 =>
      (spec_OpOf n x6).bind fun x7 =>
      if (decide ((len x1) > 1)) then
        (get? x1 (w64 ((len x1) - 1))).bind fun x8 =>
        (spec_l05Number n x8).bind fun x9 =>
        (get? x1 1).bind fun x10 =>
        (spec_l05Number n x10).bind fun x11 =>
        if (((decide ((len x1) > 2)) || (3 == 9)) || (3 == 11)) then
          if ((3 == 9) || (3 == 11)) then
            (if (3 == 0) then some default else (spec_FormatIns n (D.Ins.mk 3 0 x9 x7) p1 p2)).bind fun x12 =>
            if ((3 == 0) || (!(Str.eqb x12 p0))) then
              some ((D.Ins.mk 0 0 0 0), false)
            else
              some ((D.Ins.mk 3 0 x9 x7), true)
          else
            (if (3 == 0) then some default else (spec_FormatIns n (D.Ins.mk 3 x11 x9 x7) p1 p2)).bind fun x13 =>
            if ((3 == 0) || (!(Str.eqb x13 p0))) then
              some ((D.Ins.mk 0 0 0 0), false)
            else
              some ((D.Ins.mk 3 x11 x9 x7), true)
        else
          if ((3 == 9) || (3 == 11)) then
            (if (3 == 0) then some default else (spec_FormatIns n (D.Ins.mk 3 0 0 x7) p1 p2)).bind fun x14 =>
            if ((3 == 0) || (!(Str.eqb x14 p0))) then
              some ((D.Ins.mk 0 0 0 0), false)
            else
              some ((D.Ins.mk 3 0 0 x7), true)
          else
            (if (3 == 0) then some default else (spec_FormatIns n (D.Ins.mk 3 x11 0 x7) p1 p2)).bind fun x15 =>
            if ((3 == 0) || (!(Str.eqb x15 p0))) then
              some ((D.Ins.mk 0 0 0 0), false)
            else
              some ((D.Ins.mk 3 x11 0 x7), true)
      else
        if (((decide ((len x1) > 2)) || (3 == 9)) || (3 == 11)) then
          if ((3 == 9) || (3 == 11)) then
            (if (3 == 0) then some default else (spec_FormatIns n (D.Ins.mk 3 0 0 x7) p1 p2)).bind fun x16 =>
            if ((3 == 0) || (!(Str.eqb x16 p0))) then
              some ((D.Ins.mk 0 0 0 0), false)
            else
              some ((D.Ins.mk 3 0 0 x7), true)
          else
            (if (3 == 0) then some default else (spec_FormatIns n (D.Ins.mk 3 0 0 x7) p1 p2)).bind fun x17 =>
            if ((3 == 0) || (!(Str.eqb x17 p0))) then
              some ((D.Ins.mk 0 0 0 0), false)
            else
              some ((D.Ins.mk 3 0 0 x7), true)
        else
          if ((3 == 9) || (3 == 11)) then
            (if (3 == 0) then some default else (spec_FormatIns n (D.Ins.mk 3 0 0 x7) p1 p2)).bind fun x18 =>
            if ((3 == 0) || (!(Str.eqb x18 p0))) then
              some ((D.Ins.mk 0 0 0 0), false)
            else
              some ((D.Ins.mk 3 0 0 x7), true)
          else
            (if (3 == 0) then some default else (spec_FormatIns n (D.Ins.mk 3 0 0 x7) p1 p2)).bind fun x19 =>
            if ((3 == 0) || (!(Str.eqb x19 p0))) then
              some ((D.Ins.mk 0 0 0 0), false)
            else
              some ((D.Ins.mk 3 0 0 x7), true)
    else
      if (decide ((len x1) > 1)) then
        (get? x1 (w64 ((len x1) - 1))).bind fun x20 =>
        (spec_l05Number n x20).bind fun x21 =>
        (get? x1 1).bind fun x22 =>
        (spec_l05Number n x22).bind fun x23 =>
        if (((decide ((len x1) > 2)) || (rl1 == 9)) || (rl1 == 11)) then
          if ((rl1 == 9) || (rl1 == 11)) then
            (if (rl1 == 0) then some default else (spec_FormatIns n (D.Ins.mk rl1 0 x21 0) p1 p2)).bind fun x24 =>
            if ((rl1 == 0) || (!(Str.eqb x24 p0))) then
              some ((D.Ins.mk 0 0 0 0), false)
            else
              some ((D.Ins.mk rl1 0 x21 0), true)
          else
            (if (rl1 == 0) then some default else (spec_FormatIns n (D.Ins.mk rl1 x23 x21 0) p1 p2)).bind fun x25 =>
            if ((rl1 == 0) || (!(Str.eqb x25 p0))) then
              some ((D.Ins.mk 0 0 0 0), false)
            else
              some ((D.Ins.mk rl1 x23 x21 0), true)
        else
          if ((rl1 == 9) || (rl1 == 11)) then
            (if (rl1 == 0) then some default else (spec_FormatIns n (D.Ins.mk rl1 0 0 0) p1 p2)).bind fun x26 =>
            if ((rl1 == 0) || (!(Str.eqb x26 p0))) then
              some ((D.Ins.mk 0 0 0 0), false)
            else
              some ((D.Ins.mk rl1 0 0 0), true)
          else
            (if (rl1 == 0) then some default else (spec_FormatIns n (D.Ins.mk rl1 x23 0 0) p1 p2)).bind fun x27 =>
            if ((rl1 == 0) || (!(Str.eqb x27 p0))) then
              some ((D.Ins.mk 0 0 0 0), false)
            else
              some ((D.Ins.mk rl1 x23 0 0), true)
      else
        if (((decide ((len x1) > 2)) || (rl1 == 9)) || (rl1 == 11)) then
          if ((rl1 == 9) || (rl1 == 11)) then
            (if (rl1 == 0) then some default else (spec_FormatIns n (D.Ins.mk rl1 0 0 0) p1 p2)).bind fun x28 =>
            if ((rl1 == 0) || (!(Str.eqb x28 p0))) then
              some ((D.Ins.mk 0 0 0 0), false)
            else
              some ((D.Ins.mk rl1 0 0 0), true)
          else
            (if (rl1 == 0) then some default else (spec_FormatIns n (D.Ins.mk rl1 0 0 0) p1 p2)).bind fun x29 =>
            if ((rl1 == 0) || (!(Str.eqb x29 p0))) then
              some ((D.Ins.mk 0 0 0 0), false)
            else
              some ((D.Ins.mk rl1 0 0 0), true)
        else
          if ((rl1 == 9) || (rl1 == 11)) then
            (if (rl1 == 0) then some default else (spec_FormatIns n (D.Ins.mk rl1 0 0 0) p1 p2)).bind fun x30 =>
            if ((rl1 == 0) || (!(Str.eqb x30 p0))) then
              some ((D.Ins.mk 0 0 0 0), false)
            else
              some ((D.Ins.mk rl1 0 0 0), true)
          else
            (if (rl1 == 0) then some default else (spec_FormatIns n (D.Ins.mk rl1 0 0 0) p1 p2)).bind fun x31 =>
            if ((rl1 == 0) || (!(Str.eqb x31 p0))) then
              some ((D.Ins.mk 0 0 0 0), false)
            else
              some ((D.Ins.mk rl1 0 0 0), true)

def spec_ProgramOk (n : Nat) (p0 : D.Program) : Option Bool :=
  (spec_l01In p0.W 2 8).bind fun x1 =>
  (if (!x1) then some default else (spec_l01In p0.Mem 1 6)).bind fun x2 =>
  (if ((!x1) || (!x2)) then some default else (spec_WordOk p0.W p0.Mem)).bind fun x3 =>
  (if (((!x1) || (!x2)) || (!x3)) then some default else (spec_l01In p0.In 0 3)).bind fun x4 =>
  (if ((((!x1) || (!x2)) || (!x3)) || (!x4)) then some default else (spec_l01In (len p0.Code) 1 40)).bind fun x5 =>
  if (((((!x1) || (!x2)) || (!x3)) || (!x4)) || (!x5)) then
    some false
  else
    (iterN (fun (s1 : Int) =>
      if (decide (s1 < (len p0.Code))) then
        (get? p0.Code s1).bind fun x6 =>
        (spec_l05Ins x6 p0.W (len p0.Code)).bind fun x7 =>
        if (!x7) then
          some (.inr (.inr false))
        else
          some (.inl ((w64 (s1 + 1))))
      else
        some (.inr (.inl ()))
    ) n (0)).bind fun (rl1 : (Unit) ⊕ Bool) =>
    match rl1 with
    | .inl s1r =>
      some true
    | .inr v => some v

def spec_FormatInts (n : Nat) (p0 : List Int) : Option Str :=
  (iterN (fun (s1 : Int × (List Str)) =>
    if (decide (s1.1 < (len p0))) then
      (get? p0 s1.1).bind fun x1 =>
      (spec_FormatInt n x1).bind fun x2 =>
      (app? s1.2 ([x2] : List Str)).bind fun x3 =>
      some (.inl ((w64 (s1.1 + 1)), x3))
    else
      some (.inr (s1.2))
  ) n (0, ([] : List Str))).bind fun (rl1 : (List Str)) =>
  (spec_Join n rl1 (⟨[32]⟩)).bind fun x4 =>
  some x4

def spec_FormatProgram (n : Nat) (p0 : D.Program) : Option Str :=
  (spec_ProgramOk n p0).bind fun x1 =>
  if (!x1) then
    some (⟨[]⟩)
  else
    (spec_FormatInts n ([p0.W, p0.Mem, p0.In] : List Int)).bind fun x2 =>
    (cat? (⟨[109, 97, 99, 104, 105, 110, 101, 32]⟩) x2).bind fun x3 =>
    (cat? x3 (strOf ([(Byt.mk 10)] : List Byt))).bind fun x4 =>
    (iterN (fun (s1 : Str × Int) =>
      if (decide (s1.2 < (len p0.Code))) then
        (get? p0.Code s1.2).bind fun x5 =>
        (spec_FormatIns n x5 p0.W (len p0.Code)).bind fun x6 =>
        (cat? s1.1 x6).bind fun x7 =>
        (cat? x7 (strOf ([(Byt.mk 10)] : List Byt))).bind fun x8 =>
        some (.inl (x8, (w64 (s1.2 + 1))))
      else
        some (.inr (s1.1))
    ) n (x4, 0)).bind fun (rl1 : Str) =>
    some rl1

def spec_ParseProgram (n : Nat) (p0 : Str) : Option (D.Program × Bool) :=
  (spec_SplitLines n p0).bind fun x1 =>
  (spec_l01In (len x1) 2 41).bind fun x2 =>
  if (!x2) then
    some ((D.Program.mk 0 0 0 ([] : List D.Ins)), false)
  else
    (get? x1 0).bind fun x3 =>
    (spec_Words n x3).bind fun x4 =>
    if ((len x4) != 4) then
      some ((D.Program.mk 0 0 0 ([] : List D.Ins)), false)
    else
      (cut? x4 1 (len x4)).bind fun x5 =>
      (spec_Join n (vcut x4 1 (List.length x5)) (⟨[32]⟩)).bind fun x6 =>
      (spec_ParseInts n x6).bind fun x7 =>
      if ((!x7.2) || ((len x7.1) != 3)) then
        some ((D.Program.mk 0 0 0 ([] : List D.Ins)), false)
      else
        (get? x7.1 0).bind fun x8 =>
        (get? x7.1 1).bind fun x9 =>
        (get? x7.1 2).bind fun x10 =>
        (cut? x1 1 (len x1)).bind fun x11 =>
        (iterN (fun (s1 : Int × (List D.Ins)) =>
          if (decide (s1.1 < (len x11))) then
            (get? (vcut x1 1 (List.length x11)) s1.1).bind fun x12 =>
            (spec_ParseIns n x12 x8 (w64 ((len x1) - 1))).bind fun x13 =>
            if (!x13.2) then
              some (.inr (.inr ((D.Program.mk 0 0 0 ([] : List D.Ins)), false)))
            else
              (app? s1.2 ([x13.1] : List D.Ins)).bind fun x14 =>
              some (.inl ((w64 (s1.1 + 1)), x14))
          else
            some (.inr (.inl (s1.2)))
        ) n (0, ([] : List D.Ins))).bind fun (rl1 : ((List D.Ins)) ⊕ (D.Program × Bool)) =>
        match rl1 with
        | .inl s1r =>
          (spec_ProgramOk n (D.Program.mk x8 x9 x10 s1r)).bind fun x15 =>
          (if (!x15) then some default else (spec_FormatProgram n (D.Program.mk x8 x9 x10 s1r))).bind fun x16 =>
          if ((!x15) || (!(Str.eqb x16 p0))) then
            some ((D.Program.mk 0 0 0 ([] : List D.Ins)), false)
          else
            some ((D.Program.mk x8 x9 x10 s1r), true)
        | .inr v => some v

def strings_Split (p0 p1 : Str) : Option (List Str) :=
  if p0.bytes.length < 4294967281 ∧ 1 ≤ p1.bytes.length then some ((Lib.split p0.bytes p1.bytes).map Str.mk) else none


def impl_SplitLines (p0 : Str) : Option (List Str) :=
  if (Str.eqb p0 (⟨[]⟩)) then
    some ([] : List Str)
  else
    (strings_Split p0 (⟨[10]⟩)).bind fun x1 =>
    (get? x1 (w64 ((len x1) - 1))).bind fun x2 =>
    if (Str.eqb x2 (⟨[]⟩)) then
      (cut? x1 0 (w64 ((len x1) - 1))).bind fun x3 =>
      some x3
    else
      some x1

def internal_stringslite_HasPrefix (p0 : Str) (p1 : Str) : Option Bool :=
  if (decide ((len p0.bytes) ≥ (len p1.bytes))) then
    (scut? p0 0 (len p1.bytes)).bind fun x1 =>
    some (Str.eqb x1 p1)
  else
    some false

def internal_stringslite_CutPrefix (p0 : Str) (p1 : Str) : Option (Str × Bool) :=
  (internal_stringslite_HasPrefix p0 p1).bind fun x1 =>
  if (!x1) then
    some (p0, false)
  else
    (scut? p0 (len p1.bytes) (len p0.bytes)).bind fun x2 =>
    some (x2, true)

def strings_CutPrefix (p0 : Str) (p1 : Str) : Option (Str × Bool) :=
  (internal_stringslite_CutPrefix p0 p1).bind fun x1 =>
  some (x1.1, x1.2)

def strconv_Atoi (p0 : Str) : Option (Int × Bool) :=
  if p0.bytes.length ≤ 281474976710656 then some (match Lib.atoiAll p0.bytes with | .ok v => (v, false) | .range => (Lib.atoiSat p0.bytes, true) | _ => (0, true)) else none


def strconv_Itoa (p0 : Int) : Option Str :=
  if -9223372036854775808 ≤ p0 ∧ p0 ≤ 9223372036854775807 then some ⟨Lib.itoa p0⟩ else none


def impl_ParseInt (p0 : Str) : Option (Int × Bool) :=
  (strconv_Atoi p0).bind fun x1 =>
  if x1.2 then
    if true then
      some (0, false)
    else
      some (x1.1, true)
  else
    (strconv_Itoa x1.1).bind fun x2 =>
    if (!(Str.eqb x2 p0)) then
      some (0, false)
    else
      some (x1.1, true)

def impl_ParseInts (n : Nat) (p0 : Str) : Option ((List Int) × Bool) :=
  if (Str.eqb p0 (⟨[]⟩)) then
    some (([] : List Int), true)
  else
    (strings_Split p0 (⟨[32]⟩)).bind fun x1 =>
    (iterN (fun (s1 : Int × (List Int)) =>
      if (decide (s1.1 < (len x1))) then
        (get? x1 s1.1).bind fun x2 =>
        (impl_ParseInt x2).bind fun x3 =>
        if (!x3.2) then
          some (.inr (.inr (([] : List Int), false)))
        else
          (app? s1.2 ([x3.1] : List Int)).bind fun x4 =>
          some (.inl ((w64 (s1.1 + 1)), x4))
      else
        some (.inr (.inl (s1.2)))
    ) n (0, ([] : List Int))).bind fun (rl1 : ((List Int)) ⊕ ((List Int) × Bool)) =>
    match rl1 with
    | .inl s1r =>
      some (s1r, true)
    | .inr v => some v

def impl_insWord (p0 : Int) : Option Str :=
  if (p0 == 1) then
    some (⟨[115, 101, 116]⟩)
  else
    if (p0 == 2) then
      some (⟨[109, 111, 118, 101]⟩)
    else
      if (p0 == 4) then
        some (⟨[110, 111, 116]⟩)
      else
        if (p0 == 5) then
          some (⟨[105, 110]⟩)
        else
          if (p0 == 6) then
            some (⟨[111, 117, 116]⟩)
          else
            if (p0 == 7) then
              some (⟨[108, 111, 97, 100]⟩)
            else
              if (p0 == 8) then
                some (⟨[115, 116, 111, 114, 101]⟩)
              else
                if (p0 == 9) then
                  some (⟨[106, 117, 109, 112]⟩)
                else
                  if (p0 == 10) then
                    some (⟨[122, 101, 114, 111]⟩)
                  else
                    if (p0 == 11) then
                      some (⟨[99, 97, 108, 108]⟩)
                    else
                      if (p0 == 12) then
                        some (⟨[114, 101, 116]⟩)
                      else
                        if (p0 == 13) then
                          some (⟨[99, 104, 101, 99, 107]⟩)
                        else
                          if (p0 == 14) then
                            some (⟨[104, 97, 108, 116]⟩)
                          else
                            some (⟨[]⟩)

def impl_OpName (p0 : Int) : Option Str :=
  if ((decide (p0 < 1)) || (decide (p0 > (len ([⟨[110, 111, 116]⟩, ⟨[110, 101, 103]⟩, ⟨[97, 100, 100]⟩, ⟨[115, 117, 98]⟩, ⟨[109, 117, 108]⟩, ⟨[100, 105, 118]⟩, ⟨[114, 101, 109]⟩, ⟨[97, 110, 100]⟩, ⟨[111, 114]⟩, ⟨[120, 111, 114]⟩, ⟨[115, 104, 108]⟩, ⟨[115, 104, 114]⟩, ⟨[115, 97, 114]⟩, ⟨[101, 113]⟩, ⟨[108, 101, 115, 115]⟩, ⟨[98, 101, 108, 111, 119]⟩] : List Str))))) then
    some (⟨[]⟩)
  else
    (get? ([⟨[110, 111, 116]⟩, ⟨[110, 101, 103]⟩, ⟨[97, 100, 100]⟩, ⟨[115, 117, 98]⟩, ⟨[109, 117, 108]⟩, ⟨[100, 105, 118]⟩, ⟨[114, 101, 109]⟩, ⟨[97, 110, 100]⟩, ⟨[111, 114]⟩, ⟨[120, 111, 114]⟩, ⟨[115, 104, 108]⟩, ⟨[115, 104, 114]⟩, ⟨[115, 97, 114]⟩, ⟨[101, 113]⟩, ⟨[108, 101, 115, 115]⟩, ⟨[98, 101, 108, 111, 119]⟩] : List Str) (w64 (p0 - 1))).bind fun x1 =>
    some x1

def impl_OpOf (n : Nat) (p0 : Str) : Option Int :=
  (iterN (fun (s1 : Int) =>
    if (decide (s1 ≤ 16)) then
      (impl_OpName s1).bind fun x1 =>
      if (Str.eqb x1 p0) then
        some (.inr (.inr s1))
      else
        some (.inl ((w64 (s1 + 1))))
    else
      some (.inr (.inl ()))
  ) n (1)).bind fun (rl1 : (Unit) ⊕ Int) =>
  match rl1 with
  | .inl s1r =>
    some 0
  | .inr v => some v

def impl_isTwoWords (p0 : Int) : Option Bool :=
  some ((decide (p0 ≥ 3)) && (decide (p0 ≤ 16)))

def impl_parseReg (p0 : Str) : Option (Int × Bool) :=
  (if ((len p0.bytes) != 2) then some default else (sidx? p0 0)).bind fun x1 =>
  (if (((len p0.bytes) != 2) || (x1 != 114)) then some default else (sidx? p0 1)).bind fun x2 =>
  (if ((((len p0.bytes) != 2) || (x1 != 114)) || (decide (x2 < 48))) then some default else (sidx? p0 1)).bind fun x3 =>
  if (((((len p0.bytes) != 2) || (x1 != 114)) || (decide (x2 < 48))) || (decide (x3 > 51))) then
    some (0, false)
  else
    (sidx? p0 1).bind fun x4 =>
    some ((w64 (IntKind.u8.wrap (x4 - 48))), true)

def impl_parseOperand (p0 : Str) : Option Int :=
  (impl_parseReg p0).bind fun x1 =>
  if x1.2 then
    some x1.1
  else
    (impl_ParseInt p0).bind fun x2 =>
    some x2.1

def impl_shapeOk (p0 : Int) (p1 : Int) : Option Bool :=
  some ((((decide (p0 ≥ 2)) && (decide (p0 ≤ 8))) && (decide (p1 ≥ 1))) && (decide (p1 ≤ 40)))

def impl_isReg (p0 : Int) : Option Bool :=
  some ((decide (p0 ≥ 0)) && (decide (p0 < 4)))

def impl_isWidth (p0 : Int) : Option Bool :=
  some ((decide (p0 ≥ 1)) && (decide (p0 ≤ 16)))

def impl_WordOk (p0 : Int) (p1 : Int) : Option Bool :=
  (impl_isWidth p0).bind fun x1 =>
  (if (x1 && (decide (p1 ≥ 0))) then (shl? 1 (IntKind.u64.wrap p0)) else some default).bind fun x2 =>
  some ((x1 && (decide (p1 ≥ 0))) && (decide (p1 < x2)))

def impl_insOk (p0 : D.Ins) (p1 : Int) (p2 : Int) : Option Bool :=
  if (p0.Op == 3) then
    (impl_isReg p0.A).bind fun x1 =>
    (if x1 then (impl_isReg p0.B) else some default).bind fun x2 =>
    (if (x1 && x2) then (impl_isTwoWords p0.C) else some default).bind fun x3 =>
    some ((x1 && x2) && x3)
  else
    if (p0.C != 0) then
      some false
    else
      if (p0.Op == 1) then
        (impl_isReg p0.A).bind fun x4 =>
        (if x4 then (impl_WordOk p1 p0.B) else some default).bind fun x5 =>
        some (x4 && x5)
      else
        if (p0.Op == 2) then
          if (p0.Op == 2) then
            (impl_isReg p0.A).bind fun x6 =>
            (if x6 then (impl_isReg p0.B) else some default).bind fun x7 =>
            some (x6 && x7)
          else
            if (p0.Op == 4) then
              if (p0.Op == 4) then
                (impl_isReg p0.A).bind fun x8 =>
                some (x8 && (p0.B == 0))
              else
                if ((p0.Op == 9) || (p0.Op == 11)) then
                  some ((p0.A == 0) && ((decide (p0.B ≥ 0)) && (decide (p0.B ≤ p2))))
                else
                  if (p0.Op == 10) then
                    (impl_isReg p0.A).bind fun x9 =>
                    some (x9 && ((decide (p0.B ≥ 0)) && (decide (p0.B ≤ p2))))
                  else
                    if ((p0.Op == 12) || (p0.Op == 14)) then
                      some ((p0.A == 0) && (p0.B == 0))
                    else
                      some false
            else
              if (p0.Op == 5) then
                if (p0.Op == 5) then
                  (impl_isReg p0.A).bind fun x10 =>
                  some (x10 && (p0.B == 0))
                else
                  if ((p0.Op == 9) || (p0.Op == 11)) then
                    some ((p0.A == 0) && ((decide (p0.B ≥ 0)) && (decide (p0.B ≤ p2))))
                  else
                    if (p0.Op == 10) then
                      (impl_isReg p0.A).bind fun x11 =>
                      some (x11 && ((decide (p0.B ≥ 0)) && (decide (p0.B ≤ p2))))
                    else
                      if ((p0.Op == 12) || (p0.Op == 14)) then
                        some ((p0.A == 0) && (p0.B == 0))
                      else
                        some false
              else
                if ((p0.Op == 6) || (p0.Op == 13)) then
                  (impl_isReg p0.A).bind fun x12 =>
                  some (x12 && (p0.B == 0))
                else
                  if ((p0.Op == 9) || (p0.Op == 11)) then
                    some ((p0.A == 0) && ((decide (p0.B ≥ 0)) && (decide (p0.B ≤ p2))))
                  else
                    if (p0.Op == 10) then
                      (impl_isReg p0.A).bind fun x13 =>
                      some (x13 && ((decide (p0.B ≥ 0)) && (decide (p0.B ≤ p2))))
                    else
                      if ((p0.Op == 12) || (p0.Op == 14)) then
                        some ((p0.A == 0) && (p0.B == 0))
                      else
                        some false
        else
          if ((p0.Op == 7) || (p0.Op == 8)) then
            (impl_isReg p0.A).bind fun x14 =>
            (if x14 then (impl_isReg p0.B) else some default).bind fun x15 =>
            some (x14 && x15)
          else
            if (p0.Op == 4) then
              if (p0.Op == 4) then
                (impl_isReg p0.A).bind fun x16 =>
                some (x16 && (p0.B == 0))
              else
                if ((p0.Op == 9) || (p0.Op == 11)) then
                  some ((p0.A == 0) && ((decide (p0.B ≥ 0)) && (decide (p0.B ≤ p2))))
                else
                  if (p0.Op == 10) then
                    (impl_isReg p0.A).bind fun x17 =>
                    some (x17 && ((decide (p0.B ≥ 0)) && (decide (p0.B ≤ p2))))
                  else
                    if ((p0.Op == 12) || (p0.Op == 14)) then
                      some ((p0.A == 0) && (p0.B == 0))
                    else
                      some false
            else
              if (p0.Op == 5) then
                if (p0.Op == 5) then
                  (impl_isReg p0.A).bind fun x18 =>
                  some (x18 && (p0.B == 0))
                else
                  if ((p0.Op == 9) || (p0.Op == 11)) then
                    some ((p0.A == 0) && ((decide (p0.B ≥ 0)) && (decide (p0.B ≤ p2))))
                  else
                    if (p0.Op == 10) then
                      (impl_isReg p0.A).bind fun x19 =>
                      some (x19 && ((decide (p0.B ≥ 0)) && (decide (p0.B ≤ p2))))
                    else
                      if ((p0.Op == 12) || (p0.Op == 14)) then
                        some ((p0.A == 0) && (p0.B == 0))
                      else
                        some false
              else
                if ((p0.Op == 6) || (p0.Op == 13)) then
                  (impl_isReg p0.A).bind fun x20 =>
                  some (x20 && (p0.B == 0))
                else
                  if ((p0.Op == 9) || (p0.Op == 11)) then
                    some ((p0.A == 0) && ((decide (p0.B ≥ 0)) && (decide (p0.B ≤ p2))))
                  else
                    if (p0.Op == 10) then
                      (impl_isReg p0.A).bind fun x21 =>
                      some (x21 && ((decide (p0.B ≥ 0)) && (decide (p0.B ≤ p2))))
                    else
                      if ((p0.Op == 12) || (p0.Op == 14)) then
                        some ((p0.A == 0) && (p0.B == 0))
                      else
                        some false

def impl_FormatInt (p0 : Int) : Option Str :=
  (strconv_Itoa p0).bind fun x1 =>
  some x1

def impl_regName (p0 : Int) : Option Str :=
  (impl_FormatInt p0).bind fun x1 =>
  (cat? (⟨[114]⟩) x1).bind fun x2 =>
  some x2

def impl_FormatIns (p0 : D.Ins) (p1 : Int) (p2 : Int) : Option Str :=
  (impl_shapeOk p1 p2).bind fun x1 =>
  (if (!x1) then some default else (impl_insOk p0 p1 p2)).bind fun x2 =>
  if ((!x1) || (!x2)) then
    some (⟨[]⟩)
  else
    if (p0.Op == 3) then
      (impl_OpName p0.C).bind fun x3 =>
      (cat? x3 (⟨[32]⟩)).bind fun x4 =>
      (impl_regName p0.A).bind fun x5 =>
      (cat? x4 x5).bind fun x6 =>
      (cat? x6 (⟨[32]⟩)).bind fun x7 =>
      (impl_regName p0.B).bind fun x8 =>
      (cat? x7 x8).bind fun x9 =>
      some x9
    else
      if (p0.Op == 2) then
        if (p0.Op == 2) then
          (impl_insWord p0.Op).bind fun x10 =>
          (cat? x10 (⟨[32]⟩)).bind fun x11 =>
          (impl_regName p0.A).bind fun x12 =>
          (cat? x11 x12).bind fun x13 =>
          (cat? x13 (⟨[32]⟩)).bind fun x14 =>
          (impl_regName p0.B).bind fun x15 =>
          (cat? x14 x15).bind fun x16 =>
          some x16
        else
          if ((p0.Op == 1) || (p0.Op == 10)) then
            (impl_insWord p0.Op).bind fun x17 =>
            (cat? x17 (⟨[32]⟩)).bind fun x18 =>
            (impl_regName p0.A).bind fun x19 =>
            (cat? x18 x19).bind fun x20 =>
            (cat? x20 (⟨[32]⟩)).bind fun x21 =>
            (impl_FormatInt p0.B).bind fun x22 =>
            (cat? x21 x22).bind fun x23 =>
            some x23
          else
            if (p0.Op == 4) then
              if (p0.Op == 4) then
                (impl_insWord p0.Op).bind fun x24 =>
                (cat? x24 (⟨[32]⟩)).bind fun x25 =>
                (impl_regName p0.A).bind fun x26 =>
                (cat? x25 x26).bind fun x27 =>
                some x27
              else
                if ((p0.Op == 9) || (p0.Op == 11)) then
                  (impl_insWord p0.Op).bind fun x28 =>
                  (cat? x28 (⟨[32]⟩)).bind fun x29 =>
                  (impl_FormatInt p0.B).bind fun x30 =>
                  (cat? x29 x30).bind fun x31 =>
                  some x31
                else
                  (impl_insWord p0.Op).bind fun x32 =>
                  some x32
            else
              if (p0.Op == 5) then
                if (p0.Op == 5) then
                  (impl_insWord p0.Op).bind fun x33 =>
                  (cat? x33 (⟨[32]⟩)).bind fun x34 =>
                  (impl_regName p0.A).bind fun x35 =>
                  (cat? x34 x35).bind fun x36 =>
                  some x36
                else
                  if ((p0.Op == 9) || (p0.Op == 11)) then
                    (impl_insWord p0.Op).bind fun x37 =>
                    (cat? x37 (⟨[32]⟩)).bind fun x38 =>
                    (impl_FormatInt p0.B).bind fun x39 =>
                    (cat? x38 x39).bind fun x40 =>
                    some x40
                  else
                    (impl_insWord p0.Op).bind fun x41 =>
                    some x41
              else
                if ((p0.Op == 6) || (p0.Op == 13)) then
                  (impl_insWord p0.Op).bind fun x42 =>
                  (cat? x42 (⟨[32]⟩)).bind fun x43 =>
                  (impl_regName p0.A).bind fun x44 =>
                  (cat? x43 x44).bind fun x45 =>
                  some x45
                else
                  if ((p0.Op == 9) || (p0.Op == 11)) then
                    (impl_insWord p0.Op).bind fun x46 =>
                    (cat? x46 (⟨[32]⟩)).bind fun x47 =>
                    (impl_FormatInt p0.B).bind fun x48 =>
                    (cat? x47 x48).bind fun x49 =>
                    some x49
                  else
                    (impl_insWord p0.Op).bind fun x50 =>
                    some x50
      else
        if ((p0.Op == 7) || (p0.Op == 8)) then
          (impl_insWord p0.Op).bind fun x51 =>
          (cat? x51 (⟨[32]⟩)).bind fun x52 =>
          (impl_regName p0.A).bind fun x53 =>
          (cat? x52 x53).bind fun x54 =>
          (cat? x54 (⟨[32]⟩)).bind fun x55 =>
          (impl_regName p0.B).bind fun x56 =>
          (cat? x55 x56).bind fun x57 =>
          some x57
        else
          if ((p0.Op == 1) || (p0.Op == 10)) then
            (impl_insWord p0.Op).bind fun x58 =>
            (cat? x58 (⟨[32]⟩)).bind fun x59 =>
            (impl_regName p0.A).bind fun x60 =>
            (cat? x59 x60).bind fun x61 =>
            (cat? x61 (⟨[32]⟩)).bind fun x62 =>
            (impl_FormatInt p0.B).bind fun x63 =>
            (cat? x62 x63).bind fun x64 =>
            some x64
          else
            if (p0.Op == 4) then
              if (p0.Op == 4) then
                (impl_insWord p0.Op).bind fun x65 =>
                (cat? x65 (⟨[32]⟩)).bind fun x66 =>
                (impl_regName p0.A).bind fun x67 =>
                (cat? x66 x67).bind fun x68 =>
                some x68
              else
                if ((p0.Op == 9) || (p0.Op == 11)) then
                  (impl_insWord p0.Op).bind fun x69 =>
                  (cat? x69 (⟨[32]⟩)).bind fun x70 =>
                  (impl_FormatInt p0.B).bind fun x71 =>
                  (cat? x70 x71).bind fun x72 =>
                  some x72
                else
                  (impl_insWord p0.Op).bind fun x73 =>
                  some x73
            else
              if (p0.Op == 5) then
                if (p0.Op == 5) then
                  (impl_insWord p0.Op).bind fun x74 =>
                  (cat? x74 (⟨[32]⟩)).bind fun x75 =>
                  (impl_regName p0.A).bind fun x76 =>
                  (cat? x75 x76).bind fun x77 =>
                  some x77
                else
                  if ((p0.Op == 9) || (p0.Op == 11)) then
                    (impl_insWord p0.Op).bind fun x78 =>
                    (cat? x78 (⟨[32]⟩)).bind fun x79 =>
                    (impl_FormatInt p0.B).bind fun x80 =>
                    (cat? x79 x80).bind fun x81 =>
                    some x81
                  else
                    (impl_insWord p0.Op).bind fun x82 =>
                    some x82
              else
                if ((p0.Op == 6) || (p0.Op == 13)) then
                  (impl_insWord p0.Op).bind fun x83 =>
                  (cat? x83 (⟨[32]⟩)).bind fun x84 =>
                  (impl_regName p0.A).bind fun x85 =>
                  (cat? x84 x85).bind fun x86 =>
                  some x86
                else
                  if ((p0.Op == 9) || (p0.Op == 11)) then
                    (impl_insWord p0.Op).bind fun x87 =>
                    (cat? x87 (⟨[32]⟩)).bind fun x88 =>
                    (impl_FormatInt p0.B).bind fun x89 =>
                    (cat? x88 x89).bind fun x90 =>
                    some x90
                  else
                    (impl_insWord p0.Op).bind fun x91 =>
                    some x91

def impl_ParseIns (n : Nat) (p0 : Str) (p1 : Int) (p2 : Int) : Option (D.Ins × Bool) :=
  (strings_Split p0 (⟨[32]⟩)).bind fun x1 =>
  if ((Str.eqb p0 (⟨[]⟩)) || (decide ((len x1) > 3))) then
    some ((D.Ins.mk 0 0 0 0), false)
  else
    (iterN (fun (s1 : Int × Int) =>
      if (decide (s1.1 ≤ 14)) then
        (impl_insWord s1.1).bind fun x2 =>
        (get? x1 0).bind fun x3 =>
        if (Str.eqb x2 x3) then
          some (.inl ((w64 (s1.1 + 1)), s1.1))
        else
          some (.inl ((w64 (s1.1 + 1)), s1.2))
      else
        some (.inr (s1.2))
    ) n (1, 0)).bind fun (rl1 : Int) =>
    (get? x1 0).bind fun x4 =>
    (impl_OpOf n x4).bind fun x5 =>
    (if (rl1 == 0) then (impl_isTwoWords x5) else some default).bind fun x6 =>
    if ((rl1 == 0) && x6) then
      if ((len x1) == 3) then
        (get? x1 1).bind fun x7 =>
        (impl_parseOperand x7).bind fun x8 =>
        (get? x1 2).bind fun x9 =>
        (impl_parseOperand x9).bind fun x10 =>
        (impl_FormatIns (D.Ins.mk 3 x8 x10 x5) p1 p2).bind fun x11 =>
        if (!(Str.eqb x11 p0)) then
          some ((D.Ins.mk 0 0 0 0), false)
        else
          some ((D.Ins.mk 3 x8 x10 x5), true)
      else
        if ((len x1) == 2) then
          if (3 == 9) then
            if true then
              (get? x1 1).bind fun x12 =>
              (impl_parseOperand x12).bind fun x13 =>
              (impl_FormatIns (D.Ins.mk 3 0 x13 x5) p1 p2).bind fun x14 =>
              if (!(Str.eqb x14 p0)) then
                some ((D.Ins.mk 0 0 0 0), false)
              else
                some ((D.Ins.mk 3 0 x13 x5), true)
            else
              if ((len x1) == 2) then
                (get? x1 1).bind fun x15 =>
                (impl_parseOperand x15).bind fun x16 =>
                (impl_FormatIns (D.Ins.mk 3 x16 0 x5) p1 p2).bind fun x17 =>
                if (!(Str.eqb x17 p0)) then
                  some ((D.Ins.mk 0 0 0 0), false)
                else
                  some ((D.Ins.mk 3 x16 0 x5), true)
              else
                (impl_FormatIns (D.Ins.mk 3 0 0 x5) p1 p2).bind fun x18 =>
                if (!(Str.eqb x18 p0)) then
                  some ((D.Ins.mk 0 0 0 0), false)
                else
                  some ((D.Ins.mk 3 0 0 x5), true)
          else
            if (3 == 11) then
              (get? x1 1).bind fun x19 =>
              (impl_parseOperand x19).bind fun x20 =>
              (impl_FormatIns (D.Ins.mk 3 0 x20 x5) p1 p2).bind fun x21 =>
              if (!(Str.eqb x21 p0)) then
                some ((D.Ins.mk 0 0 0 0), false)
              else
                some ((D.Ins.mk 3 0 x20 x5), true)
            else
              if ((len x1) == 2) then
                (get? x1 1).bind fun x22 =>
                (impl_parseOperand x22).bind fun x23 =>
                (impl_FormatIns (D.Ins.mk 3 x23 0 x5) p1 p2).bind fun x24 =>
                if (!(Str.eqb x24 p0)) then
                  some ((D.Ins.mk 0 0 0 0), false)
                else
                  some ((D.Ins.mk 3 x23 0 x5), true)
              else
                (impl_FormatIns (D.Ins.mk 3 0 0 x5) p1 p2).bind fun x25 =>
                if (!(Str.eqb x25 p0)) then
                  some ((D.Ins.mk 0 0 0 0), false)
                else
                  some ((D.Ins.mk 3 0 0 x5), true)
        else
          if false then
            (get? x1 1).bind fun x26 =>
            (impl_parseOperand x26).bind fun x27 =>
            (impl_FormatIns (D.Ins.mk 3 0 x27 x5) p1 p2).bind fun x28 =>
            if (!(Str.eqb x28 p0)) then
              some ((D.Ins.mk 0 0 0 0), false)
            else
              some ((D.Ins.mk 3 0 x27 x5), true)
          else
            if ((len x1) == 2) then
              (get? x1 1).bind fun x29 =>
              (impl_parseOperand x29).bind fun x30 =>
              (impl_FormatIns (D.Ins.mk 3 x30 0 x5) p1 p2).bind fun x31 =>
              if (!(Str.eqb x31 p0)) then
                some ((D.Ins.mk 0 0 0 0), false)
              else
                some ((D.Ins.mk 3 x30 0 x5), true)
            else
              (impl_FormatIns (D.Ins.mk 3 0 0 x5) p1 p2).bind fun x32 =>
              if (!(Str.eqb x32 p0)) then
                some ((D.Ins.mk 0 0 0 0), false)
              else
                some ((D.Ins.mk 3 0 0 x5), true)
    else
      if ((len x1) == 3) then
        (get? x1 1).bind fun x33 =>
        (impl_parseOperand x33).bind fun x34 =>
        (get? x1 2).bind fun x35 =>
        (impl_parseOperand x35).bind fun x36 =>
        (impl_FormatIns (D.Ins.mk rl1 x34 x36 0) p1 p2).bind fun x37 =>
        if (!(Str.eqb x37 p0)) then
          some ((D.Ins.mk 0 0 0 0), false)
        else
          some ((D.Ins.mk rl1 x34 x36 0), true)
      else
        if ((len x1) == 2) then
          if (rl1 == 9) then
            if true then
              (get? x1 1).bind fun x38 =>
              (impl_parseOperand x38).bind fun x39 =>
              (impl_FormatIns (D.Ins.mk rl1 0 x39 0) p1 p2).bind fun x40 =>
              if (!(Str.eqb x40 p0)) then
                some ((D.Ins.mk 0 0 0 0), false)
              else
                some ((D.Ins.mk rl1 0 x39 0), true)
            else
              if ((len x1) == 2) then
                (get? x1 1).bind fun x41 =>
                (impl_parseOperand x41).bind fun x42 =>
                (impl_FormatIns (D.Ins.mk rl1 x42 0 0) p1 p2).bind fun x43 =>
                if (!(Str.eqb x43 p0)) then
                  some ((D.Ins.mk 0 0 0 0), false)
                else
                  some ((D.Ins.mk rl1 x42 0 0), true)
              else
                (impl_FormatIns (D.Ins.mk rl1 0 0 0) p1 p2).bind fun x44 =>
                if (!(Str.eqb x44 p0)) then
                  some ((D.Ins.mk 0 0 0 0), false)
                else
                  some ((D.Ins.mk rl1 0 0 0), true)
          else
            if (rl1 == 11) then
              (get? x1 1).bind fun x45 =>
              (impl_parseOperand x45).bind fun x46 =>
              (impl_FormatIns (D.Ins.mk rl1 0 x46 0) p1 p2).bind fun x47 =>
              if (!(Str.eqb x47 p0)) then
                some ((D.Ins.mk 0 0 0 0), false)
              else
                some ((D.Ins.mk rl1 0 x46 0), true)
            else
              if ((len x1) == 2) then
                (get? x1 1).bind fun x48 =>
                (impl_parseOperand x48).bind fun x49 =>
                (impl_FormatIns (D.Ins.mk rl1 x49 0 0) p1 p2).bind fun x50 =>
                if (!(Str.eqb x50 p0)) then
                  some ((D.Ins.mk 0 0 0 0), false)
                else
                  some ((D.Ins.mk rl1 x49 0 0), true)
              else
                (impl_FormatIns (D.Ins.mk rl1 0 0 0) p1 p2).bind fun x51 =>
                if (!(Str.eqb x51 p0)) then
                  some ((D.Ins.mk 0 0 0 0), false)
                else
                  some ((D.Ins.mk rl1 0 0 0), true)
        else
          if false then
            (get? x1 1).bind fun x52 =>
            (impl_parseOperand x52).bind fun x53 =>
            (impl_FormatIns (D.Ins.mk rl1 0 x53 0) p1 p2).bind fun x54 =>
            if (!(Str.eqb x54 p0)) then
              some ((D.Ins.mk 0 0 0 0), false)
            else
              some ((D.Ins.mk rl1 0 x53 0), true)
          else
            if ((len x1) == 2) then
              (get? x1 1).bind fun x55 =>
              (impl_parseOperand x55).bind fun x56 =>
              (impl_FormatIns (D.Ins.mk rl1 x56 0 0) p1 p2).bind fun x57 =>
              if (!(Str.eqb x57 p0)) then
                some ((D.Ins.mk 0 0 0 0), false)
              else
                some ((D.Ins.mk rl1 x56 0 0), true)
            else
              (impl_FormatIns (D.Ins.mk rl1 0 0 0) p1 p2).bind fun x58 =>
              if (!(Str.eqb x58 p0)) then
                some ((D.Ins.mk 0 0 0 0), false)
              else
                some ((D.Ins.mk rl1 0 0 0), true)

def impl_ProgramOk (n : Nat) (p0 : D.Program) : Option Bool :=
  (impl_shapeOk p0.W (len p0.Code)).bind fun x1 =>
  (if (((!x1) || (decide (p0.Mem < 1))) || (decide (p0.Mem > 6))) then some default else (impl_WordOk p0.W p0.Mem)).bind fun x2 =>
  if ((((!x1) || (decide (p0.Mem < 1))) || (decide (p0.Mem > 6))) || (!x2)) then
    some false
  else
    if ((decide (p0.In < 0)) || (decide (p0.In > 3))) then
      some false
    else
      (iterN (fun (s1 : Int) =>
        if (decide (s1 < (len p0.Code))) then
          (get? p0.Code s1).bind fun x3 =>
          (impl_insOk x3 p0.W (len p0.Code)).bind fun x4 =>
          if (!x4) then
            some (.inr (.inr false))
          else
            some (.inl ((w64 (s1 + 1))))
        else
          some (.inr (.inl ()))
      ) n (0)).bind fun (rl1 : (Unit) ⊕ Bool) =>
      match rl1 with
      | .inl s1r =>
        some true
      | .inr v => some v

def strings_Join (p0 : List Str) (p1 : Str) : Option Str :=
  if p0.length ≤ 1000 ∧ (Lib.join (p0.map (·.bytes)) p1.bytes).length ≤ 140737488355328 then some ⟨Lib.join (p0.map (·.bytes)) p1.bytes⟩ else none


def impl_FormatInts (n : Nat) (p0 : List Int) : Option Str :=
  (mk? (len p0) (⟨[]⟩ : Str)).bind fun x1 =>
  (iterN (fun (s1 : Int × (List Str)) =>
    if (decide (s1.1 < (len p0))) then
      (get? p0 s1.1).bind fun x2 =>
      (impl_FormatInt x2).bind fun x3 =>
      (set? s1.2 s1.1 x3).bind fun x4 =>
      some (.inl ((w64 (s1.1 + 1)), x4))
    else
      some (.inr (s1.2))
  ) n (0, x1)).bind fun (rl1 : (List Str)) =>
  (strings_Join rl1 (⟨[32]⟩)).bind fun x5 =>
  some x5





def impl_FormatProgram (n : Nat) (p0 : D.Program) : Option Str :=
  (impl_ProgramOk n p0).bind fun x1 =>
  if (!x1) then
    some (⟨[]⟩)
  else
    (impl_FormatInts n ([p0.W, p0.Mem, p0.In] : List Int)).bind fun x2 =>
    (cat? (⟨[109, 97, 99, 104, 105, 110, 101, 32]⟩) x2).bind fun x3 =>
    (cat? x3 (⟨[10]⟩)).bind fun x4 =>
    (bw? (⟨[]⟩ : Str) x4).bind fun x5 =>
    (iterN (fun (s1 : Int × Str) =>
      if (decide (s1.1 < (len p0.Code))) then
        (get? p0.Code s1.1).bind fun x6 =>
        (impl_FormatIns x6 p0.W (len p0.Code)).bind fun x7 =>
        (cat? x7 (⟨[10]⟩)).bind fun x8 =>
        (bw? s1.2 x8).bind fun x9 =>
        some (.inl ((w64 (s1.1 + 1)), x9))
      else
        some (.inr (s1.2))
    ) n (0, x5)).bind fun (rl1 : Str) =>
    some rl1

def impl_ParseProgram (n : Nat) (p0 : Str) : Option (D.Program × Bool) :=
  (impl_SplitLines p0).bind fun x1 =>
  if (decide ((len x1) < 2)) then
    some ((D.Program.mk 0 0 0 ([] : List D.Ins)), false)
  else
    (get? x1 0).bind fun x2 =>
    (strings_CutPrefix x2 (⟨[109, 97, 99, 104, 105, 110, 101, 32]⟩)).bind fun x3 =>
    (impl_ParseInts n x3.1).bind fun x4 =>
    if (((!x3.2) || (!x4.2)) || ((len x4.1) != 3)) then
      some ((D.Program.mk 0 0 0 ([] : List D.Ins)), false)
    else
      (get? x4.1 0).bind fun x5 =>
      (get? x4.1 1).bind fun x6 =>
      (get? x4.1 2).bind fun x7 =>
      (cut? x1 1 (len x1)).bind fun x8 =>
      (iterN (fun (s1 : Int × (List D.Ins)) =>
        if (decide (s1.1 < (len x8))) then
          (get? (vcut x1 1 (List.length x8)) s1.1).bind fun x9 =>
          (impl_ParseIns n x9 x5 (w64 ((len x1) - 1))).bind fun x10 =>
          if (!x10.2) then
            some (.inr (.inr ((D.Program.mk 0 0 0 ([] : List D.Ins)), false)))
          else
            (app? s1.2 ([x10.1] : List D.Ins)).bind fun x11 =>
            some (.inl ((w64 (s1.1 + 1)), x11))
        else
          some (.inr (.inl (s1.2)))
      ) n (0, ([] : List D.Ins))).bind fun (rl1 : ((List D.Ins)) ⊕ (D.Program × Bool)) =>
      match rl1 with
      | .inl s1r =>
        (impl_ProgramOk n (D.Program.mk x5 x6 x7 s1r)).bind fun x12 =>
        (if (!x12) then some default else (impl_FormatProgram n (D.Program.mk x5 x6 x7 s1r))).bind fun x13 =>
        if ((!x12) || (!(Str.eqb x13 p0))) then
          some ((D.Program.mk 0 0 0 ([] : List D.Ins)), false)
        else
          some ((D.Program.mk x5 x6 x7 s1r), true)
      | .inr v => some v

def laws_eqIns (p0 : D.Ins) (p1 : D.Ins) : Option Bool :=
  if (p0.Op != p1.Op) then
    some false
  else
    if (p0.A != p1.A) then
      some false
    else
      if (p0.B != p1.B) then
        some false
      else
        if (p0.C != p1.C) then
          some false
        else
          some true

def laws_eqInsS (n : Nat) (p0 : List D.Ins) (p1 : List D.Ins) : Option Bool :=
  if ((len p0) != (len p1)) then
    some false
  else
    (iterN (fun (s1 : Int) =>
      if (decide (s1 < (len p0))) then
        (get? p0 s1).bind fun x1 =>
        (get? p1 s1).bind fun x2 =>
        (laws_eqIns x1 x2).bind fun x3 =>
        if (!x3) then
          some (.inr (.inr false))
        else
          some (.inl ((w64 (s1 + 1))))
      else
        some (.inr (.inl ()))
    ) n (0)).bind fun (rl1 : (Unit) ⊕ Bool) =>
    match rl1 with
    | .inl s1r =>
      some true
    | .inr v => some v

def laws_eqProgram (n : Nat) (p0 : D.Program) (p1 : D.Program) : Option Bool :=
  if (p0.W != p1.W) then
    some false
  else
    if (p0.Mem != p1.Mem) then
      some false
    else
      if (p0.In != p1.In) then
        some false
      else
        (laws_eqInsS n p0.Code p1.Code).bind fun x1 =>
        if (!x1) then
          some false
        else
          some true

def laws_markInsS (n : Nat) (p0 : List D.Ins) (p1 : Int) : Option (Int × (List D.Ins)) :=
  (iterN (fun (s1 : Int × Int × (List D.Ins)) =>
    if (decide (s1.2.1 < (len p0))) then
      (get? s1.2.2 s1.2.1).bind fun x1 =>
      (set? s1.2.2 s1.2.1 ({ x1 with Op := s1.1 } : D.Ins)).bind fun x2 =>
      (get? x2 s1.2.1).bind fun x3 =>
      (set? x2 s1.2.1 ({ x3 with A := (w64 (s1.1 + 1)) } : D.Ins)).bind fun x4 =>
      (get? x4 s1.2.1).bind fun x5 =>
      (set? x4 s1.2.1 ({ x5 with B := (w64 ((w64 (s1.1 + 1)) + 1)) } : D.Ins)).bind fun x6 =>
      (get? x6 s1.2.1).bind fun x7 =>
      (set? x6 s1.2.1 ({ x7 with C := (w64 ((w64 ((w64 (s1.1 + 1)) + 1)) + 1)) } : D.Ins)).bind fun x8 =>
      some (.inl ((w64 ((w64 ((w64 ((w64 (s1.1 + 1)) + 1)) + 1)) + 1)), (w64 (s1.2.1 + 1)), x8))
    else
      some (.inr (s1.1, s1.2.2))
  ) n (p1, 0, p0)).bind fun (rl1 : Int × (List D.Ins)) =>
  some (rl1.1, rl1.2)

def laws_markProgram (n : Nat) (p0 : D.Program) (p1 : Int) : Option (Int × D.Program) :=
  (laws_markInsS n p0.Code p1).bind fun x1 =>
  some (x1.1, (D.Program.mk p0.W p0.Mem p0.In x1.2))

def laws_heldInsS (n : Nat) (p0 : List D.Ins) (p1 : Int) : Option Int :=
  (iterN (fun (s1 : Int × Int) =>
    if (decide (s1.2 < (len p0))) then
      (get? p0 s1.2).bind fun x1 =>
      if (x1.Op != s1.1) then
        some (.inr (.inr (-1)))
      else
        (get? p0 s1.2).bind fun x2 =>
        if (x2.A != (w64 (s1.1 + 1))) then
          some (.inr (.inr (-1)))
        else
          (get? p0 s1.2).bind fun x3 =>
          if (x3.B != (w64 ((w64 (s1.1 + 1)) + 1))) then
            some (.inr (.inr (-1)))
          else
            (get? p0 s1.2).bind fun x4 =>
            if (x4.C != (w64 ((w64 ((w64 (s1.1 + 1)) + 1)) + 1))) then
              some (.inr (.inr (-1)))
            else
              some (.inl ((w64 ((w64 ((w64 ((w64 (s1.1 + 1)) + 1)) + 1)) + 1)), (w64 (s1.2 + 1))))
    else
      some (.inr (.inl (s1.1)))
  ) n (p1, 0)).bind fun (rl1 : (Int) ⊕ Int) =>
  match rl1 with
  | .inl s1r =>
    some s1r
  | .inr v => some v

def laws_heldProgram (n : Nat) (p0 : D.Program) (p1 : Int) : Option Int :=
  (laws_heldInsS n p0.Code p1).bind fun x1 =>
  if (decide (x1 < 0)) then
    some (-1)
  else
    some x1

def laws_FnExactParseProgram (n : Nat) (p0 : Str) : Option Bool :=
  if (decide ((len p0.bytes) > 1048576)) then
    some true
  else
    (spec_ParseProgram n p0).bind fun x1 =>
    (impl_ParseProgram n p0).bind fun x2 =>
    (laws_eqProgram n x2.1 x1.1).bind fun x3 =>
    if ((!x3) || (!(x2.2 == x1.2))) then
      some false
    else
      (laws_markProgram n x2.1 1).bind fun x4 =>
      (laws_heldProgram n (D.Program.mk x2.1.W x2.1.Mem x2.1.In x4.2.Code) 1).bind fun x5 =>
      if (decide (x5 < 0)) then
        some false
      else
        if (x5 != x4.1) then
          some false
        else
          (impl_ParseProgram n p0).bind fun x6 =>
          (laws_eqProgram n x6.1 x1.1).bind fun x7 =>
          if ((!x7) || (!(x6.2 == x1.2))) then
            some false
          else
            (laws_heldProgram n (D.Program.mk x2.1.W x2.1.Mem x2.1.In x4.2.Code) 1).bind fun x8 =>
            if (decide (x8 < 0)) then
              some false
            else
              if (x8 != x4.1) then
                some false
              else
                some true
end Go.GL
