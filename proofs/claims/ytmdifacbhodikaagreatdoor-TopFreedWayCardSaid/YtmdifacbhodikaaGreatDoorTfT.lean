/-
  TopFreedWay, behind the number that it makes small.
-/
import Derived.Test.YtmdifacbhodikaaGreatDoorGenTf
import Derived.Test.YtmdifacbhodikaaGreatDoorTfS
set_option linter.all false
set_option linter.unusedVariables false
set_option maxRecDepth 20000
noncomputable section
namespace Go.Fk
open Go Go.Fw Go.Proofs

def tl6 (F : Nat) (g : V) (K : V → St) : St := q11 F (I 1) (I 1) fun h => q13 F (I 0) (I 1) fun l => q23 F (I 1) fun n => q29 F (I 1) fun o => kBuildSlice 3 (repK (.cons (I 0) (.cons (I 0) (.cons (I 0) (.cons (I 0) (.cons (I 0) (.cons .ns .nil)))))) 3) [⟨0,6,true,l⟩,⟨6,6,true,n⟩,⟨12,6,true,o⟩] fun q => q12 F h (I 0) q fun y => jn (α := V → V → St) (fun z da => q25 F (I 0) (I 1) (I 0) fun db => kBuildSlice 1 (repK (.cons (I 0) (.cons (I 0) (.cons (I 0) (.cons (I 0) (.cons (I 0) (.cons .ns .nil)))))) 1) [⟨0,6,true,db⟩] fun dc => q12 F da (I 0) dc fun dd => kAdd (I 3) z fun de => kBuild (.cons (I 0) (.cons (I 0) .nil)) [⟨0,1,false,(I 2)⟩,⟨1,1,false,de⟩] fun df => kPtr (.cons (I 0) (.cons (I 0) .nil)) fun dg => kStoreN 2 dg df fun _ => kNil da fun dh => kFieldAddr 0 dh fun di => kLoad di fun dj => kLoadN 2 dg fun dk => q30 F dj dk fun dl => jn (α := V → V → V → V → St) (fun dm dn dp dq => onB dq (K (.b false)) (jn (α := V → V → V → St) (fun dr ds dt => kNil dr fun du => kFieldAddr 0 du fun dv => kLoad dv fun dw => kLoadN 2 ds fun dx => kSlice 1 dt (some (I 1)) none none fun dy => q31 F dw dx dy fun dz => kNot dz fun d0 => K d0) fun dr => lpK (α := V → V → V → V → St) (fun _ _ _ _ => bad) (fun ds dt du dv dw => kLen dv fun dx => kLss dw dx fun dy => onB dy (kIndexAddr 1 dv dw fun dz => kLoad dz fun d0 => kAdd (I 2) dw fun d1 => kNeq d0 d1 fun d2 => onB d2 (K (.b false)) (kAdd dw (I 1) fun d3 => ds dt du dv d3)) (dr dt du dv)) F dm dn dp (I 0))) fun dm => kLen dl fun dn => kAdd z (I 2) fun dp => kNeq dn dp fun dq => onB dq (dm da dg dl (.b true)) (kNil da fun dr => kFieldAddr 0 dr fun ds => kLoad ds fun dt => kLoadN 2 dg fun du => q31 F dt du dl fun dv => kNot dv fun dw => onB dw (dm da dg dl (.b true)) (kLoadN 2 dg fun dx => kBuildSlice 1 (repK (.cons (I 0) (.cons (I 0) .nil)) 1) [⟨0,2,true,dx⟩] fun dy => q22 F da dy fun dz => kNot dz fun d0 => dm da dg dl d0))) fun z => lpK (α := V → V → V → St) (fun _ _ _ => bad) (fun da db dc dd => kLss dd db fun de => onB de (q13 F (I 0) dd fun df => kBuildSlice 1 (repK (.cons (I 0) (.cons (I 0) (.cons (I 0) (.cons (I 0) (.cons (I 0) (.cons .ns .nil)))))) 1) [⟨0,6,true,df⟩] fun dg => q12 F dc (I 0) dg fun dh => kAdd dd (I 1) fun di => da db dc di) (z db dc)) F g h (I 0)
theorem q6_cut (F : Nat) (x0 : V) (K : V → St) : q6 F x0 K = q9 F fun d => kNot d fun e => onB e (K (.b false)) (q10 F x0 (I 12) fun g => tl6 F g K) := rfl
def a8 : Ad := ⟨.d0, .d0, .d0, .d8⟩
abbrev run6 (h : Nat) : Bool := isTrue (tl6 2000 (I h) fin a8 (base2 tabNs))
end Go.Fk
