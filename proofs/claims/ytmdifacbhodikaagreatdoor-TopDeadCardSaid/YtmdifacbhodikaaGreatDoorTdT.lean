/-
  TopDead, behind the number that it makes small.
-/
import Derived.Test.YtmdifacbhodikaaGreatDoorGenTd
import Derived.Test.YtmdifacbhodikaaGreatDoorTdS
set_option linter.all false
set_option linter.unusedVariables false
set_option maxRecDepth 20000
noncomputable section
namespace Go.Fk
open Go Go.Fw Go.Proofs

def tl5 (F : Nat) (h : V) (x1 : V) (K : V → St) : St := q11 F (I 1) (I 1) fun l => q13 F (I 0) (I 1) fun n => q23 F (I 1) fun o => kBuildSlice 2 (repK (.cons (I 0) (.cons (I 0) (.cons (I 0) (.cons (I 0) (.cons (I 0) (.cons .ns .nil)))))) 2) [⟨0,6,true,n⟩,⟨6,6,true,o⟩] fun q => q12 F l (I 0) q fun y => jn (α := V → V → V → St) (fun z da db => jn (α := V → V → V → St) (fun dc dd de => kNil dd fun df => kFieldAddr 0 df fun dg => kLoad dg fun dh => q27 F dh .ns fun di => kExtract di 0 fun dj => kExtract di 1 fun dk => kEqI true dk .ni fun dl => onB dl (K (.b false)) (kNot dc fun dm => onB dm (kNil dj fun dn => kFieldAddr 0 dn fun dp => kLoad dp fun dq => kLen dq fun dr => kEql dr (I 0) fun ds => onB ds (kNil dj fun dt => kFieldAddr 2 dt fun du => kLoad du fun dv => kLen dv fun dw => kEql dw (I 1) fun dx => onB dx (kNil dj fun dy => kFieldAddr 1 dy fun dz => kLoad dz fun d0 => kLen d0 fun d1 => kEql d1 (I 0) fun d2 => K d2) (K (.b false))) (K (.b false))) (kNil dj fun dn => kFieldAddr 0 dn fun dp => kLoad dp fun dq => kLen dq fun dr => kEql dr (I 1) fun ds => onB ds (kNil dj fun dt => kFieldAddr 0 dt fun du => kLoad du fun dv => kIndexAddr 2 dv (I 0) fun dw => kFieldAddr 0 dw fun dx => kLoad dx fun dy => kEql dy (I 1) fun dz => onB dz (kNil dj fun d0 => kFieldAddr 0 d0 fun d1 => kLoad d1 fun d2 => kIndexAddr 2 d2 (I 0) fun d3 => kFieldAddr 1 d3 fun d4 => kLoad d4 fun d5 => q28 F dd de (I 1) fun d6 => kChk false d1 d2 (kChk false d4 d5 (kEql d5 d6 fun d7 => onB d7 (kNil dj fun d8 => kFieldAddr 2 d8 fun d9 => kLoad d9 fun ea => kLen ea fun eb => kEql eb (I 2) fun ec => onB ec (kNil dj fun ed => kFieldAddr 1 ed fun ee => kLoad ee fun ef => kLen ef fun eg => kEql eg (I 1) fun eh => onB eh (kNil dj fun ei => kFieldAddr 1 ei fun ej => kLoad ej fun ek => kIndexAddr 2 ek (I 0) fun el => kFieldAddr 1 el fun em => kLoad em fun en => kEql en de fun eo => K eo) (K (.b false))) (K (.b false))) (K (.b false))))) (K (.b false))) (K (.b false))))) fun dc => onB z (kBuildSlice 1 (repK (.cons (I 0) .nil) 1) [⟨0,1,false,(I 1)⟩] fun dd => q26 F (I 0) db dd fun de => kBuildSlice 1 (repK (.cons (I 0) (.cons (I 0) (.cons (I 0) (.cons (I 0) (.cons (I 0) (.cons .ns .nil)))))) 1) [⟨0,6,true,de⟩] fun df => q12 F da (I 0) df fun dg => dc z da db) (dc z da db)) fun z => lpK (α := V → V → V → V → V → St) (fun _ _ _ _ _ => bad) (fun da db dc dd de df => kLss df db fun dg => onB dg (q24 F dd (I 1) (I 1) (I 1) fun dh => q14 F (I 2) fun di => q25 F (I 1) (I 2) (I 0) fun dj => kBuildSlice 2 (repK (.cons (I 0) (.cons (I 0) (.cons (I 0) (.cons (I 0) (.cons (I 0) (.cons .ns .nil)))))) 2) [⟨0,6,true,di⟩,⟨6,6,true,dj⟩] fun dk => q12 F dd dh dk fun dl => kAdd df (I 1) fun dm => da db dc dd dh dm) (z dc dd de)) F h x1 l (I 0) (I 0)
theorem q5_cut (F : Nat) (x0 x1 : V) (K : V → St) : q5 F x0 x1 K = q9 F fun d => kNot d fun e => onB e (K (.b false)) (q10 F x0 (I 8) fun g => kAdd (I 1) g fun h => tl5 F h x1 K) := rfl
def a8 : Ad := ⟨.d0, .d0, .d0, .d8⟩
abbrev run5 (h : Nat) (b : Bool) : Bool := isTrue (tl5 2000 (I h) (.b b) fin a8 (base2 tabNs))
end Go.Fk
