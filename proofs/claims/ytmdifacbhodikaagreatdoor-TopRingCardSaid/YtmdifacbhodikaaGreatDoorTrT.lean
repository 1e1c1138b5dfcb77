/-
  TopRing, behind the number that it makes small.
-/
import Derived.Test.YtmdifacbhodikaaGreatDoorGenTr
import Derived.Test.YtmdifacbhodikaaGreatDoorTrS
set_option linter.all false
set_option linter.unusedVariables false
set_option maxRecDepth 20000
noncomputable section
namespace Go.Fk
open Go Go.Fw Go.Proofs

def tl8 (F : Nat) (h : V) (K : V → St) : St := q11 F (I 1) (I 0) fun l => q13 F (I 0) (I 1) fun n => kBuildSlice 1 (repK (.cons (I 0) .nil) 1) [⟨0,1,false,(I 0)⟩] fun o => q26 F (I 0) (I 1) o fun q => kBuildSlice 2 (repK (.cons (I 0) (.cons (I 0) (.cons (I 0) (.cons (I 0) (.cons (I 0) (.cons .ns .nil)))))) 2) [⟨0,6,true,n⟩,⟨6,6,true,q⟩] fun y => q12 F l (I 0) y fun z => jn (α := V → V → St) (fun da db => kNil db fun dc => kFieldAddr 0 dc fun dd => kLoad dd fun de => q27 F de .ns fun df => kExtract df 0 fun dg => kExtract df 1 fun dh => jn (α := V → V → St) (fun di dj => onB dj (K (.b false)) (q32 F di .ns fun dk => kLen dk fun dl => kEql dl (I 0) fun dm => K dm)) fun di => kEqI true dh .ni fun dj => onB dj (di db (.b true)) (kNil dg fun dk => kFieldAddr 2 dk fun dl => kLoad dl fun dm => kLen dm fun dn => kAdd da (I 1) fun dp => kNeq dn dp fun dq => onB dq (di db (.b true)) (kNil dg fun dr => kFieldAddr 1 dr fun ds => kLoad ds fun dt => kLen dt fun du => kAdd da (I 1) fun dv => kNeq du dv fun dw => onB dw (di db (.b true)) (kNil dg fun dx => kFieldAddr 0 dx fun dy => kLoad dy fun dz => kLen dz fun d0 => kNeq d0 (I 0) fun d1 => di db d1)))) fun da => lpK (α := V → V → V → St) (fun _ _ _ => bad) (fun db dc dd de => kLeq de dc fun df => onB df (q24 F dd (I 2) (I 1) (I 0) fun dg => kRem de dc fun dh => kAdd dh (I 1) fun di => kBuildSlice 1 (repK (.cons (I 0) .nil) 1) [⟨0,1,false,(I 0)⟩] fun dj => q26 F (I 1) di dj fun dk => kBuildSlice 1 (repK (.cons (I 0) (.cons (I 0) (.cons (I 0) (.cons (I 0) (.cons (I 0) (.cons .ns .nil)))))) 1) [⟨0,6,true,dk⟩] fun dl => q12 F dd dg dl fun dm => kNil dd fun dn => kFieldAddr 0 dn fun dp => kLoad dp fun dq => kNil dq fun dr => kFieldAddr 4 dr fun ds => kLoad ds fun dt => kIndexAddr 3 dt dg fun du => kFieldAddr 2 du fun dv => kLoad dv fun dw => kIndexAddr 5 dw (I 0) fun dx => kFieldAddr 2 dx fun dy => kStore dy (I 0) fun _ => kAdd de (I 1) fun dz => db dc dd dz) (da dc dd)) F h l (I 1)
theorem q8_cut (F : Nat) (x0 : V) (K : V → St) : q8 F x0 K = q9 F fun d => kNot d fun e => onB e (K (.b false)) (q10 F x0 (I 10) fun g => kAdd (I 1) g fun h => tl8 F h K) := rfl
def a8 : Ad := ⟨.d0, .d0, .d0, .d8⟩
abbrev run8 (h : Nat) : R := tl8 2000 (I h) finT a8 (base2 tabNs)
end Go.Fk
