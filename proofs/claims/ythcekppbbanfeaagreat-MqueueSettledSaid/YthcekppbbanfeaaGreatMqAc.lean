/- Message queue: an act that came in, as data. Conditions: none. -/
import Derived.Test.YthcekppbbanfeaaGreatMqA
set_option linter.unusedVariables false
set_option linter.unusedSimpArgs false
namespace Go.Proofs.YthcekppbbanfeaaGreat.Den
open Go Go.RowKit
/-- An act, as it came in. -/
structure Ac where
  kind : Int
  th : Int
  pri : Int
  sh : Sh
  data : List Int
  wait : Bool
  time : Int
  ki : Int
  co : Int
  pr : Int
  cd : Int
  va : Int
def Ac.enc (a : Ac) : List Value := [U8 a.kind, I a.th, I a.pri, a.sh.val, .bool a.wait, I a.time, I a.ki, I a.co, I a.pr, I a.cd, I a.va]
def cAc : Cod Ac := ⟨11, Ac.enc, fun _ => rfl, by intro a c hc; simp only [Ac.enc, List.mem_cons, List.not_mem_nil, or_false] at hc; rcases hc with rfl | rfl | rfl | rfl | rfl | rfl | rfl | rfl | rfl | rfl | rfl <;> rfl⟩
end Go.Proofs.YthcekppbbanfeaaGreat.Den
