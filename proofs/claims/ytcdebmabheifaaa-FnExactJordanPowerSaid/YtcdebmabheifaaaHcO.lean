/-
  JordanUnit: the program's and the reference's.
-/
import Derived.Test.YtcdebmabheifaaaHcN
import Derived.Test.YtcdebmabheifaaaLawE
import Derived.Test.YtcdebmabheifaaaMarkI
namespace Go.Proofs.Ytcdebmabheifaaa
open Go.RowKit

def RJordanUnit1 (p : Int) (st : List Int) : Int := chkH p st []
def RJordanUnit0 (p : Int) (st : List Int) : Her := if chkH p st [] = 0 then unitH (sz st.length) else ⟨[], []⟩
end Go.Proofs.Ytcdebmabheifaaa
