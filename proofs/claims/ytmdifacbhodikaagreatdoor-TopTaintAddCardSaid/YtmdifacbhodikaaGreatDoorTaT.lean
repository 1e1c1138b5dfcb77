/-
  TopTaintAdd, behind the two numbers that it makes small.
-/
import Derived.Test.YtmdifacbhodikaaGreatDoorGenTA
import Derived.Test.YtmdifacbhodikaaGreatDoorTaS
set_option linter.all false
set_option linter.unusedVariables false
set_option maxRecDepth 20000
noncomputable section
namespace Go.Fk
open Go Go.Fw Go.Proofs

def tl4 (F : Nat) (h n : V) (K : V → St) : St := q11 F (I 2) (I 0) fun o => q13 F (I 0) (I 0) fun q => kBuildSlice 1 (repK (.cons (I 0) (.cons (I 0) (.cons (I 0) (.cons (I 0) (.cons (I 0) (.cons .ns .nil)))))) 1) [⟨0,6,true,q⟩] fun y => q12 F o (I 0) y fun z => jn (α := V → V → St) (fun da db => kNil db fun dc => kFieldAddr 0 dc fun dd => kLoad dd fun de => kNil de fun df => kFieldAddr 4 df fun dg => kLoad dg fun dh => kIndexAddr 3 dh (I 0) fun di => kFieldAddr 2 di fun dj => kLoad dj fun dk => kIndexAddr 5 dk (I 0) fun dl => kFieldAddr 0 dl fun dm => kLoad dm fun dn => kLen dn fun dp => q21 F (I 0) fun dq => kBuildSlice 1 (repK (.cons (I 0) (.cons (I 0) (.cons (I 0) (.cons (I 0) (.cons (I 0) (.cons .ns .nil)))))) 1) [⟨0,6,true,dq⟩] fun dr => q12 F db (I 0) dr fun ds => kMul (I 2) da fun dt => kAdd (I 1) dt fun du => kLss du dp fun dv => onB dv (kBuild (.cons (I 0) (.cons (I 0) .nil)) [⟨0,1,false,(I 3)⟩,⟨1,1,false,dp⟩] fun dw => kBuildSlice 1 (repK (.cons (I 0) (.cons (I 0) .nil)) 1) [⟨0,2,true,dw⟩] fun dx => q22 F db dx fun dy => K dy) (q22 F db .ns fun dw => K dw)) fun da => lpK (α := V → V → V → V → St) (fun _ _ _ _ => bad) (fun db dc dd de df => kLss df dd fun dg => onB dg (q13 F (I 1) df fun dh => kPtr (.cons (I 0) (.cons (I 0) (.cons (I 0) (.cons (I 0) (.cons (I 0) (.cons .ns .nil)))))) fun di => kStoreN 6 di dh fun _ => jn (α := V → V → V → V → V → St) (fun dj dk dl dm dn => kNil dl fun dp => kFieldAddr 0 dp fun dq => kLoad dq fun dr => kNil dr fun ds => kFieldAddr 4 ds fun dt => kLoad dt fun du => kIndexAddr 3 du (I 0) fun dv => kFieldAddr 2 dv fun dw => kLoad dw fun dx => kIndexAddr 5 dx (I 0) fun dy => kFieldAddr 0 dy fun dz => kLoad dz fun d0 => kLen d0 fun d1 => kAdd d1 (I 3) fun d2 => kGtr d2 (I 30) fun d3 => onB d3 (da dj dl) (kLoadN 6 dn fun d4 => q20 F (I 0) (I 0) (I 1) fun d5 => kChk true dn d4 (kBuildSlice 2 (repK (.cons (I 0) (.cons (I 0) (.cons (I 0) (.cons (I 0) (.cons (I 0) (.cons .ns .nil)))))) 2) [⟨0,6,true,d4⟩,⟨6,6,true,d5⟩] fun d6 => q12 F dl (I 0) d6 fun d7 => kAdd dm (I 1) fun d8 => db dj dk dl d8))) fun dj => kEql df dc fun dk => onB dk (q19 F (I 1) fun dl => kStoreN 6 di dl fun _ => dj dc dd de df di) (dj dc dd de df di)) (da dc de)) F n h o (I 0)
theorem q4_cut (F : Nat) (x0 x1 : V) (K : V → St) : q4 F x0 x1 K = q9 F fun d => kNot d fun e => onB e (K (.b false)) (q10 F x1 (I 20) fun g => kAdd (I 1) g fun h => kAdd h (I 1) fun l => q10 F x0 l fun n => tl4 F h n K) := rfl
def a8 : Ad := ⟨.d0, .d0, .d0, .d8⟩
abbrev run4 (h n : Nat) : Bool := isTrue (tl4 2000 (I h) (I n) fin a8 (base2 tabNs))
end Go.Fk
