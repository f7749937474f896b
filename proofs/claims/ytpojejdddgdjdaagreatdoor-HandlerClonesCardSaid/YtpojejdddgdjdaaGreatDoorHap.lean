/- The handler, plain: what it answers, what it keeps. No condition. -/
import Derived.Test.YtpojejdddgdjdaaGreatDoorSrv
import Derived.Test.YtpojejdddgdjdaaGreatDoorSdc
import Derived.Test.YtpojejdddgdjdaaGreatDoorMap
namespace Go.Proofs.YtpojejdddgdjdaaGreatDoor.M
open Go.ChangeShapes Go.WideShapes Go.ChangeAt Go.RowKit

/-- an answer -/
structure An where
  fs : List Fld
  b : Bytes
  ts : List Fld
def bAlt : Bytes := [97, 108, 116, 45, 115, 118, 99]
def bH3 : Bytes := [104, 51, 61, 34, 58, 52, 52, 51, 34]
def bAllow : Bytes := [97, 108, 108, 111, 119]
def bCT : Bytes := [99, 111, 110, 116, 101, 110, 116, 45, 116, 121, 112, 101]
def bLoc : Bytes := [108, 111, 99, 97, 116, 105, 111, 110]
def bXs : Bytes := [120, 45, 115, 117, 109]
def bTP : Bytes := [116, 101, 120, 116, 47, 112, 108, 97, 105, 110]
def bGET : Bytes := [71, 69, 84]
def bHEAD : Bytes := [72, 69, 65, 68]
def bPOST : Bytes := [80, 79, 83, 84]
def bPUT : Bytes := [80, 85, 84]
def bDEL : Bytes := [68, 69, 76, 69, 84, 69]
def bRead : Bytes := [71, 69, 84, 44, 32, 72, 69, 65, 68]
def bPP : Bytes := [80, 79, 83, 84, 44, 32, 80, 85, 84]
def bPGHD : Bytes := [80, 85, 84, 44, 32, 71, 69, 84, 44, 32, 72, 69, 65, 68, 44, 32, 68, 69, 76, 69, 84, 69]
def bAll : Bytes := [71, 69, 84, 44, 32, 72, 69, 65, 68, 44, 32, 80, 79, 83, 84, 44, 32, 80, 85, 84, 44, 32, 68, 69, 76, 69, 84, 69, 44, 32, 79, 80, 84, 73, 79, 78, 83]
def bStat : Bytes := [47, 115, 116, 97, 116, 105, 99, 47]
def bKv : Bytes := [47, 107, 118, 47]
def bGo : Bytes := [47, 103, 111, 47]
def bEcho : Bytes := [47, 101, 99, 104, 111]
def bSum : Bytes := [47, 115, 117, 109]
def bColour : Bytes := [32, 105, 115, 32, 97, 32, 99, 111, 108, 111, 117, 114]
def bRed : Bytes := [114, 101, 100]
def bGreen : Bytes := [103, 114, 101, 101, 110]
def bBlue : Bytes := [98, 108, 117, 101]
def bOk : Bytes := [111, 107]
/-- an answer's fields -/
def ansF (st n : Nat) (more : List Fld) : List Fld := [(bSt, decB st), (bCL, decB n)] ++ more ++ [(bAlt, bH3)]
def ans (st : Nat) (b : Bytes) (more : List Fld) : An := ⟨ansF st b.length more, b, []⟩
def hNone : An := ans 404 [] []
def hNot (a : Bytes) : An := ans 405 [] [(bAllow, a)]
def hReads (m : Bytes) : Bool := decide (m = bGET) || decide (m = bHEAD)
def hFixed (q : RQ) (x : Bytes) : An :=
  if x = bRed ∨ x = bGreen ∨ x = bBlue then (if hReads q.me then ans 200 (x ++ bColour) [(bCT, bTP)] else hNot bRead) else hNone
def findF (l : List Fld) (nm : Bytes) : List Bytes := (l.filter (fun f => decide (f.1 = nm))).map Prod.snd
def ctL : List Bytes → List Fld
  | [] => []
  | v :: _ => [(bCT, v)]
def ctOf (l : List Fld) : List Fld := ctL (findF l bCT)
def hEcho (q : RQ) : An := if q.me ≠ bPOST ∧ q.me ≠ bPUT then hNot bPP else ⟨ansF 200 q.b.length (ctOf q.fs), q.b, q.ts⟩
def sumB (b : Bytes) : Nat := (b.map UInt8.toNat).sum
def hSum (q : RQ) : An := if q.me ≠ bPOST then hNot bPOST else ⟨ansF 200 2 [], bOk, [(bXs, decB (sumB q.b))]⟩
def hElse (q : RQ) (x : Bytes) : An := if 64 < x.length then hNone else if hReads q.me then ans 302 [] [(bLoc, bStat ++ x)] else hNot bRead
/-- a key may be so -/
def hKey (s : Bytes) : Bool := !s.isEmpty && (decide (s.length ≤ 32) && s.all alnum)
abbrev Sto := List (Bytes × Bytes)
def hKeyed (l : Sto) (q : RQ) (k : Bytes) : An × Sto :=
  if hKey k = false then (hNone, l) else
  match getE k l with
  | none => if q.me = bPUT then (if 64 ≤ l.length then (ans 507 [] [], l) else (ans 201 [] [], putE k q.b l))
      else if hReads q.me = false ∧ q.me ≠ bDEL then (hNot bPGHD, l) else (hNone, l)
  | some b => if q.me = bPUT then (ans 204 [] [], putE k q.b l)
      else if hReads q.me = false ∧ q.me ≠ bDEL then (hNot bPGHD, l)
      else if q.me = bDEL then (ans 204 [] [], delE k l) else (ans 200 b [], l)
def cut? (p s : Bytes) : Option Bytes := if Lib.hasPrefix s p then some (s.drop p.length) else none
def hRest (q : RQ) : An :=
  if q.pa = bEcho then hEcho q else if q.pa = bSum then hSum q else if (q.pa = [47] ∨ q.pa = [42]) ∧ q.me = bOpt then ans 204 [] [(bAllow, bAll)] else hNone
def hPath (l : Sto) (q : RQ) : An × Sto :=
  match cut? bStat q.pa with
  | some x => (hFixed q x, l)
  | none => match cut? bKv q.pa with
    | some x => hKeyed l q x
    | none => match cut? bGo q.pa with
      | some x => (hElse q x, l)
      | none => (hRest q, l)
def hNoBody (q : RQ) (a : An) : An := if q.me = bHEAD then { a with b := [] } else a
def handle (l : Sto) (q : RQ) : An × Sto := (hNoBody q (hPath l q).1, (hPath l q).2)
def hBad (c : Int) : An := if c = 1 then ans 400 [] [] else if c = 2 then ans 431 [] [] else ans 500 [] []
/-- what is found goes by each value's map -/
theorem getE_map {κ α β : Type} [DecidableEq κ] (g : α → β) (k : κ) (l : List (κ × α)) : getE k (l.map (fun x => (x.1, g x.2))) = (getE k l).map g := by
  induction l with
  | nil => rfl
  | cons p r ih =>
    rw [List.map_cons, getE_cons, getE_cons]
    by_cases h : k = p.1
    · rw [if_pos h, if_pos h]; rfl
    · rw [if_neg h, if_neg h]; exact ih
theorem putE_map {κ α β : Type} [DecidableEq κ] (g : α → β) (k : κ) (v : α) (l : List (κ × α)) : putE k (g v) (l.map (fun x => (x.1, g x.2))) = (putE k v l).map (fun x => (x.1, g x.2)) := by
  induction l with
  | nil => rfl
  | cons p r ih =>
    obtain ⟨a, b⟩ := p
    by_cases h : k = a <;> simp [putE, h, ih]
theorem delE_map {κ α β : Type} [DecidableEq κ] (g : α → β) (k : κ) (l : List (κ × α)) : delE k (l.map (fun x => (x.1, g x.2))) = (delE k l).map (fun x => (x.1, g x.2)) := by
  induction l with
  | nil => rfl
  | cons p r ih =>
    obtain ⟨a, b⟩ := p
    by_cases h : k = a <;> simp [delE, h, ih]
end Go.Proofs.YtpojejdddgdjdaaGreatDoor.M
