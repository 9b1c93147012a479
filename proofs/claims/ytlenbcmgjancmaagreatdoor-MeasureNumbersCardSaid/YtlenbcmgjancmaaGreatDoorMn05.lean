import Derived.Test.YtlenbcmgjancmaaGreatDoorMn03
import Derived.LoopTactic
import Derived.Deep.DeepCutAuto
import Derived.Deep.QuietTactic
import Derived.BigQuiet
import Derived.Outline
set_option linter.unusedVariables false
set_option linter.unusedSimpArgs false
namespace Go.Proofs.YtlenbcmgjancmaaGreatDoor
open Go.RowKit
def tabV (t:List (Nat × Nat)):List Value:=t.flatMap fun p=>[.int .i32 p.1,.int .i32 p.2]
theorem tabV_get (t:List (Nat × Nat)) (i:Nat) (p:Nat × Nat) (h:t[i]?=some p):(tabV t)[i*2]?=some (.int .i32 p.1)∧(tabV t)[i*2+1]?=some (.int .i32 p.2):=by
 induction t generalizing i with
 |nil=>simp at h
 |cons q t ih=>
  cases i with
  |zero=>simp at h;subst h;exact⟨rfl,rfl⟩
  |succ i=>
   have:=ih i (by simpa using h)
   rw [show (i+1)*2=i*2+1+1 by omega];exact this
def TRet (c:Nat) (w:World) (e:Ending) (w':World):Prop:=e=.returned (.slice (some ⟨w.heap.size,0,none⟩) (tabC c).length (tabC c).length)∧w'=w.alloc (.cells (tabV (tabC c)).toArray 206)
set_option maxRecDepth 100000 in
set_option maxHeartbeats 1000000 in
theorem told_0 (w:World):Calls Tryz.prog 122 #[.int .i8 0] w (TRet 0 w):=by
 go_enter Tryz.func122,Tryz.ntmps122
 go_wp2
 go_ret
 exact⟨rfl,rfl⟩
set_option maxRecDepth 100000 in
set_option maxHeartbeats 1000000 in
theorem told_1 (w:World):Calls Tryz.prog 122 #[.int .i8 1] w (TRet 1 w):=by
 go_enter Tryz.func122,Tryz.ntmps122
 go_wp2
 go_ret
 exact⟨rfl,rfl⟩
set_option maxRecDepth 100000 in
set_option maxHeartbeats 1000000 in
theorem told_2 (w:World):Calls Tryz.prog 122 #[.int .i8 2] w (TRet 2 w):=by
 go_enter Tryz.func122,Tryz.ntmps122
 go_wp2
 go_ret
 exact⟨rfl,rfl⟩
set_option maxRecDepth 100000 in
set_option maxHeartbeats 1000000 in
theorem told_3 (w:World):Calls Tryz.prog 122 #[.int .i8 3] w (TRet 3 w):=by
 go_enter Tryz.func122,Tryz.ntmps122
 go_wp2
 go_ret
 exact⟨rfl,rfl⟩
set_option maxRecDepth 100000 in
set_option maxHeartbeats 1000000 in
theorem told_4 (w:World):Calls Tryz.prog 122 #[.int .i8 4] w (TRet 4 w):=by
 go_enter Tryz.func122,Tryz.ntmps122
 go_wp2
 go_ret
 exact⟨rfl,rfl⟩
set_option maxRecDepth 100000 in
set_option maxHeartbeats 1000000 in
theorem told_5 (w:World):Calls Tryz.prog 122 #[.int .i8 5] w (TRet 5 w):=by
 go_enter Tryz.func122,Tryz.ntmps122
 go_wp2
 go_ret
 exact⟨rfl,rfl⟩
set_option maxRecDepth 100000 in
set_option maxHeartbeats 1000000 in
theorem told_6 (w:World):Calls Tryz.prog 122 #[.int .i8 6] w (TRet 6 w):=by
 go_enter Tryz.func122,Tryz.ntmps122
 go_wp2
 go_ret
 exact⟨rfl,rfl⟩
set_option maxRecDepth 100000 in
set_option maxHeartbeats 1000000 in
theorem told_7 (w:World):Calls Tryz.prog 122 #[.int .i8 7] w (TRet 7 w):=by
 go_enter Tryz.func122,Tryz.ntmps122
 go_wp2
 go_ret
 exact⟨rfl,rfl⟩
set_option maxRecDepth 100000 in
set_option maxHeartbeats 1000000 in
theorem told_8 (w:World):Calls Tryz.prog 122 #[.int .i8 8] w (TRet 8 w):=by
 go_enter Tryz.func122,Tryz.ntmps122
 go_wp2
 go_ret
 exact⟨rfl,rfl⟩
end Go.Proofs.YtlenbcmgjancmaaGreatDoor
