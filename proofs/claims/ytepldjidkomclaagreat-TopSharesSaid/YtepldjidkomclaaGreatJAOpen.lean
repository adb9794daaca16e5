/- Reading arguments: structs, arrays and slices whose leaves are integers; the end of a law's proof. No function of the program in sight. -/
import Derived.ProofKit
import Derived.OpenShut
import Derived.Deep.Slices
import Derived.ChangeSame
import Derived.WideKeyArgs
import Derived.DataShut
import Derived.Test.YtepldjidkomclaaGreatJARow
namespace Go.Proofs.YtepldjidkomclaaGreat.St
set_option linter.unusedSimpArgs false
set_option linter.unusedVariables false
open Go.RowKit Go.ChangeShapes Go.WideShapes Go.Deep
def IntsK : List IntKind → List Value → Prop
  | [], [] => True
  | k :: ks, v :: vs => (∃ z, v = .int k z ∧ k.min ≤ z ∧ z ≤ k.max) ∧ IntsK ks vs
  | _, _ => False
theorem IntsK.append : ∀ {ks ks' : List IntKind} {vs vs' : List Value}, IntsK ks vs → IntsK ks' vs' → IntsK (ks ++ ks') (vs ++ vs')
  | [], _, [], _, _, h' => h'
  | _ :: _, _, _ :: _, _, ⟨h1, h2⟩, h' => ⟨h1, h2.append h'⟩
  | [], _, _ :: _, _, h, _ => h.elim
  | _ :: _, _, [], _, h, _ => h.elim
theorem IntsK.length : ∀ {ks : List IntKind} {vs : List Value}, IntsK ks vs → vs.length = ks.length
  | [], [], _ => rfl
  | _ :: _, _ :: _, ⟨_, h2⟩ => by simp [h2.length]
  | [], _ :: _, h => h.elim
  | _ :: _, [], h => h.elim
theorem IntsK.cons {k : IntKind} {ks : List IntKind} {vs : List Value} (h : IntsK (k :: ks) vs) : ∃ z vs', vs = .int k z :: vs' ∧ k.min ≤ z ∧ z ≤ k.max ∧ IntsK ks vs' := by
  cases vs with
  | nil => exact h.elim
  | cons v vs => obtain ⟨⟨z, rfl, h1, h2⟩, h3⟩ := h; exact ⟨z, vs, rfl, h1, h2, h3⟩
theorem IntsK.nil {vs : List Value} (h : IntsK [] vs) : vs = [] := by
  cases vs with
  | nil => rfl
  | cons v vs => exact h.elim
def leavesF (P : Program) (rec : TypeId → Option (List IntKind)) : List Field → Nat → Option (List IntKind)
  | [], _ => some []
  | f :: fs, off =>
    match rec f.type, leavesF P rec fs (off + P.cellsOf f.type) with
    | some ks, some ks' => if f.offset = off ∧ P.cellsOf f.type = ks.length then some (ks ++ ks') else none
    | _, _ => none
def leavesA (ks : List IntKind) : Nat → List IntKind
  | 0 => []
  | n + 1 => ks ++ leavesA ks n
def leaves (P : Program) : Nat → TypeId → Option (List IntKind)
  | 0, _ => none
  | n + 1, t =>
    match P.underlying t with
    | some (.int k) => some [k]
    | some (.struct fs) => (leavesF P (leaves P n) fs.toList 0).bind fun ks => if P.cellsOf t = ks.length then some ks else none
    | some (.array m e) => (leaves P n e).bind fun ks => if P.cellsOf e = ks.length ∧ P.cellsOf t = (leavesA ks m).length then some (leavesA ks m) else none
    | _ => none
section
variable {H : Type} {enc : TypeId × Value → H} {P : Program} {w : World} {base : Nat} {spare : Nat → Bool} {held : Bool}
end
end Go.Proofs.YtepldjidkomclaaGreat.St
