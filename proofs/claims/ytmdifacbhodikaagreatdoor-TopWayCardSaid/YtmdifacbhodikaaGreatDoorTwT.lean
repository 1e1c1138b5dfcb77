/-
  TopWay, behind the number that it makes small first; the place of the second one is held open.
-/
import Derived.Test.YtmdifacbhodikaaGreatDoorGenTw
import Derived.Test.YtmdifacbhodikaaGreatDoorTwS
set_option linter.all false
set_option linter.unusedVariables false
set_option maxRecDepth 20000
noncomputable section
namespace Go.Fk
open Go Go.Fw Go.Proofs

def tlG (F : Nat) (Q : V → V → (V → St) → St) (h x1 : V) (K : V → St) : St := kAdd h (I 1) fun l => q11 F (I 1) l fun n => q13 F (I 0) (I 1) fun o => q14 F (I 1) fun q => kBuildSlice 2 (repK (.cons (I 0) (.cons (I 0) (.cons (I 0) (.cons (I 0) (.cons (I 0) (.cons .ns .nil)))))) 2) [⟨0,6,true,o⟩,⟨6,6,true,q⟩] fun y => q12 F n (I 0) y fun z => jn (α := V → V → V → St) (fun da db dc => kAdd da (I 1) fun dd => q16 F dd (I 0) (I 0) fun de => kBuildSlice 1 (repK (.cons (I 0) (.cons (I 0) (.cons (I 0) (.cons (I 0) (.cons (I 0) (.cons .ns .nil)))))) 1) [⟨0,6,true,de⟩] fun df => q12 F dc (I 0) df fun dg => kAdd (I 2) da fun dh => kBuild (.cons (I 0) (.cons (I 0) .nil)) [⟨0,1,false,(I 1)⟩,⟨1,1,false,dh⟩] fun di => kPtr (.cons (I 0) (.cons (I 0) .nil)) fun dj => kStoreN 2 dj di fun _ => kNil dc fun dk => kFieldAddr 0 dk fun dl => kLoad dl fun dm => kLoadN 2 dj fun dn => q17 F dm dn fun dp => jn (α := V → V → V → V → V → V → St) (fun dq dr ds dt du dv => onB dv (K (.b false)) (jn (α := V → V → V → V → V → St) (fun dw dx dy dz d0 => kAdd dw (I 1) fun d1 => Q dx d1 fun d2 => kApp 5 40 .ns d0 fun d3 => kIndexAddr 5 d3 d2 fun d4 => kFieldAddr 1 d4 fun d5 => kStore d5 (I 0) fun _ => kNil dy fun d6 => kFieldAddr 0 d6 fun d7 => kLoad d7 fun d8 => kLoadN 2 dz fun d9 => q18 F d8 d9 d3 fun ea => kNot ea fun eb => onB eb (kNil dy fun ec => kFieldAddr 0 ec fun ed => kLoad ed fun ee => kLoadN 2 dz fun ef => kSlice 5 d0 (some (I 1)) none none fun eg => q18 F ee ef eg fun eh => kNot eh fun ei => onB ei (kNil dy fun ej => kFieldAddr 0 ej fun ek => kLoad ek fun el => kFieldAddr 1 dz fun em => kLoad em fun en => kBuild (.cons (I 0) (.cons (I 0) .nil)) [⟨0,1,false,(I 3)⟩,⟨1,1,false,en⟩] fun eo => q18 F el eo d0 fun ep => kNot ep fun eq => K eq) (K (.b false))) (K (.b false))) fun dw => lpK (α := V → V → V → V → V → V → St) (fun _ _ _ _ _ _ => bad) (fun dx dy dz d0 d1 d2 d3 => kLeq d3 dy fun d4 => onB d4 (jn (α := V → V → V → V → V → V → V → St) (fun d5 d6 d7 d8 d9 ea eb => onB eb (K (.b false)) (kAdd ea (I 1) fun ec => dx d5 d6 d7 d8 d9 ec)) fun d5 => kIndexAddr 5 d2 d3 fun d6 => kFieldAddr 0 d6 fun d7 => kLoad d7 fun d8 => kNeq d8 (I 1) fun d9 => onB d9 (d5 dy dz d0 d1 d2 d3 (.b true)) (kIndexAddr 5 d2 d3 fun ea => kFieldAddr 1 ea fun eb => kLoad eb fun ec => kAdd d3 (I 1) fun ed => kNeq ec ed fun ee => d5 dy dz d0 d1 d2 d3 ee)) (dw dy dz d0 d1 d2)) F dq dr ds dt du (I 0))) fun dq => kLen dp fun dr => kAdd da (I 1) fun ds => kNeq dr ds fun dt => onB dt (dq da db dc dj dp (.b true)) (kNil dc fun du => kFieldAddr 0 du fun dv => kLoad dv fun dw => kLoadN 2 dj fun dx => q18 F dw dx dp fun dy => kNot dy fun dz => dq da db dc dj dp dz)) fun da => lpK (α := V → V → V → V → St) (fun _ _ _ _ => bad) (fun db dc dd de df => kLss df dc fun dg => onB dg (kAdd df (I 2) fun dh => kAdd df (I 1) fun di => q15 F dh di fun dj => kBuildSlice 1 (repK (.cons (I 0) (.cons (I 0) (.cons (I 0) (.cons (I 0) (.cons (I 0) (.cons .ns .nil)))))) 1) [⟨0,6,true,dj⟩] fun dk => q12 F de (I 0) dk fun dl => kAdd df (I 1) fun dm => db dc dd de dm) (da dc dd de)) F h x1 n (I 0)
theorem q3_cut (F : Nat) (x0 x1 : V) (K : V → St) : q3 F x0 x1 K = q9 F fun d => kNot d fun e => onB e (K (.b false)) (q10 F x0 (I 10) fun g => kAdd (I 1) g fun h => tlG F (q10 F) h x1 K) := rfl
def a8 : Ad := ⟨.d0, .d0, .d0, .d8⟩
/-- The second number, where it is asked for below n: m. -/
def Qm (F n m : Nat) (z : Int) (_ l : V) (K : V → St) : St := fun a t => on_n l (fun k => ifR (Nat.beq k n) (K (I m) a t) (q10 F (.i z) l K a t)) (q10 F (.i z) l K a t)
theorem Qm_eq {F n m : Nat} {z : Int} (h : ∀ K, q10 F (.i z) (I n) K = K (I m)) (x : V) : ∀ l K, q10 F (.i z) l K = Qm F n m z x l K := by
  intro l K
  funext a t
  show _ = on_n l _ _
  cases l with
  | i w =>
    cases w with
    | ofNat k =>
      show _ = ifR (Nat.beq k n) (K (I m) a t) (q10 F (.i z) (I k) K a t)
      cases hb : Nat.beq k n with
      | false => rfl
      | true =>
        have := Nat.eq_of_beq_eq_true hb
        subst this
        show q10 F (.i z) (I k) K a t = K (I m) a t
        rw [h]
    | negSucc k => rfl
  | _ => rfl
abbrev run3 (h m : Nat) (z : Int) : R := tlG 2000 (Qm 2000 (h + 1) m z) (I h) .u finT a8 (base2 tabNs)
end Go.Fk
