/- HPACK's encoder in plain words. No condition. -/
import Derived.Test.YtcebckkpablagaaTabp
import Derived.Test.YtcebckkpablagaaStr
namespace Go.Proofs.Ytcebckkpablagaa.M
open Go.ChangeShapes Go.WideShapes Go.ChangeAt Go.RowKit

def bAuth : Bytes := [97, 117, 116, 104, 111, 114, 105, 122, 97, 116, 105, 111, 110]
def bCookie : Bytes := [99, 111, 111, 107, 105, 101]
def bSetCookie : Bytes := [115, 101, 116, 45, 99, 111, 111, 107, 105, 101]
/-- is a name's value never indexed? -/
def secret (n : Bytes) : Bool := decide (n = bAuth) || (decide (n = bCookie) || decide (n = bSetCookie))

/-- where a field stands in both tables, and whether whole -/
def placeS (T : Tb) (f : Fld) : Nat × Bool :=
  match h2S f, T.find f with
  | (i, ok, whole), (k, there, all) =>
    if whole then (i, true) else if all then (61 + T.n - k, true) else if ok then (i, false) else if there then (61 + T.n - k, false) else (0, false)
/-- one field's bytes -/
def oneB (T : Tb) (f : Fld) : Bytes :=
  match placeS T f with
  | (i, whole) =>
    if whole then pfx 128 7 i
    else (if secret f.1 then pfx 16 4 i else if T.cap / 2 < fsize f then pfx 0 4 i else pfx 64 6 i) ++ (if i = 0 then strc 128 0 7 f.1 else []) ++ strc 128 0 7 f.2
/-- the table behind it -/
def oneT (T : Tb) (f : Fld) : Tb :=
  if (placeS T f).2 then T else if secret f.1 then T else if T.cap / 2 < fsize f then T else T.add f
def linesB : Tb → List Fld → Bytes
  | _, [] => []
  | T, f :: r => oneB T f ++ linesB (oneT T f) r
def linesT : Tb → List Fld → Tb
  | T, [] => T
  | T, f :: r => linesT (oneT T f) r
/-- an encoder: its table; the least capacity since the last block, if it changed -/
structure En where
  t : Tb
  least : Option Nat
/-- size updates -/
def En.sizeB (E : En) : Bytes :=
  match E.least with
  | none => []
  | some m => (if m < E.t.cap then pfx 32 5 m else []) ++ pfx 32 5 E.t.cap
def En.encB (E : En) (l : List Fld) : Bytes := E.sizeB ++ linesB E.t l
def En.enc (E : En) (l : List Fld) : En := ⟨linesT E.t l, none⟩
def lim (n : Int) : Nat := (min (max n 0) 4096).toNat
def En.resize (E : En) (n : Int) : En := ⟨E.t.resize (lim n), some (match E.least with | none => lim n | some m => min m (lim n))⟩
def En.new (n : Int) : En := ⟨⟨[], 0, lim n⟩, none⟩
theorem lim_le (n : Int) : lim n ≤ 4096 := by unfold lim; omega

theorem Tb.find_le (T : Tb) (f : Fld) (h : T.l.length ≤ T.n) : (T.find f).1 ≤ T.n := by
  unfold Tb.find
  cases h1 : lastAt id f T.first T.l with
  | some i => have := (lastAt_range id f T.l T.first i h1).2; unfold Tb.first at this; simp only; omega
  | none =>
    cases h2 : lastAt Prod.fst f.1 T.first T.l with
    | some i => have := (lastAt_range Prod.fst f.1 T.l T.first i h2).2; unfold Tb.first at this; simp only; omega
    | none => simp
theorem h2S_le (f : Fld) : (h2S f).1 ≤ 62 := by
  have := findS_le h2tab f
  have h : h2tab.length = 61 := by decide
  unfold h2S
  split <;> simp <;> omega
end Go.Proofs.Ytcebckkpablagaa.M
