/- Qr -/
import Derived.BigQuiet
import Derived.Deep.CutBlock
import Derived.Lib.Hide
import Derived.IntWalk
import Derived.StillTailTactics
import Derived.Test.YtdgggjeiflllhaaZzLev
import Derived.Test.YtdgggjeiflllhaaZzArr
import Derived.Test.YtdgggjeiflllhaaZzQt

namespace Go.Proofs.Ytdgggjeiflllhaa.M
open Go.ChangeShapes Go.WideShapes Go.ChangeAt Go.RowKit
section
variable {M : Nat → Prop} {w w' : World} {pr c : Nat} {r : Bytes} {A : Option Addr}
def Sub (A : Option Addr) (c : Nat) (A2 : Option Addr) (c2 : Nat) : Prop := Go.Proofs.Ytdgggjeiflllhaa.M.blk A2 = Go.Proofs.Ytdgggjeiflllhaa.M.blk A ∧ ∀ g off, A = some ⟨g, off, none⟩ → ∃ off2, A2 = some ⟨g, off2, none⟩ ∧ off ≤ off2 ∧ off2 + c2 ≤ off + c
theorem Sub.trans {A A2 A3 : Option Addr} {c c2 c3 : Nat} (h : Sub A2 c2 A3 c3) (k : Sub A c A2 c2) : Sub A c A3 c3 := ⟨h.1.trans k.1, fun g off e => by
  obtain ⟨o2, e2, l2, m2⟩ := k.2 g off e
  obtain ⟨o3, e3, l3, m3⟩ := h.2 g o2 e2
  exact ⟨o3, e3, by omega, by omega⟩⟩
end
end Go.Proofs.Ytdgggjeiflllhaa.M

