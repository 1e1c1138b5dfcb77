/-
  A scope of labels through which the run goes without a jump.
-/
import Derived.Test.YtdomcfoabnhlfaaFwP
import Derived.Scope
namespace Go.Fw

section
variable {c : Ctx} {Q : Exit → Act → World → Prop} {Γ : List (Nat × Value)} {m : M Value}

theorem rScope {x : Code} (h : OKc c x Γ m (Exit.noGoto Q)) : OKc c (.scope x) Γ m Q := fun _ _ _ _ _ e r xx l d => wp_scope_straight (h _ _ _ _ _ e r xx l d)
theorem xScN (h : OKq c Q .normal Γ m) : OKq c (Exit.noGoto Q) .normal Γ m := h
theorem xScX {id : Nat} (h : OKq c Q (.exit id) Γ m) : OKq c (Exit.noGoto Q) (.exit id) Γ m := h
theorem xScR (h : OKq c Q .ret Γ m) : OKq c (Exit.noGoto Q) .ret Γ m := h
end

end Go.Fw
