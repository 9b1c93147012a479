import Derived.Test.YtlenbcmgjancmaaGreatDoorProg
import Derived.Test.YtlenbcmgjancmaaGreatDoorMn02
import Derived.WalkKit
import Derived.WalkSpells
import Derived.WalkLawsBesides
import Derived.Lib.Hide
set_option linter.unusedVariables false
set_option linter.unusedSimpArgs false
namespace Go.Proofs.YtlenbcmgjancmaaGreatDoor
theorem zH {p : Prop} (h : p) : Go.RowKit.Hid p:=h
open Go.RowKit
def VRet (v:Value) (w:World) (e:Ending) (w':World):Prop:=e=.returned v∧w'=w
def VBel (v:Value) (w:World) (e:Ending) (w':World):Prop:=e=.returned v∧Below w.heap.size w w'
def leadV (b:Nat):Value:=.tuple #[.int .i64 (leadS b).1,.int .u8 (leadS b).2.1,.int .u8 (leadS b).2.2]
theorem leadV_eq {b n lo hi:Nat} (h:leadS b=(n,lo,hi)):leadV b=.tuple #[.int .i64 n,.int .u8 lo,.int .u8 hi]:=by unfold leadV;rw [h]
set_option maxRecDepth 100000 in
set_option maxHeartbeats 1000000 in
theorem lead_any (b:Nat) (hb:b<256) (w:World):Calls Tryz.prog 171 #[.int .u8 b] w (VRet (leadV b) w):=by
 have hc:b<128∨(128≤b∧b<194)∨(194≤b∧b≤223)∨b=224∨(225≤b∧b≤236)∨b=237∨(238≤b∧b≤239)∨b=240∨(241≤b∧b≤243)∨b=244∨245≤b:=by omega
 rcases hc with h|⟨h,h'⟩|⟨h,h'⟩|rfl|⟨h,h'⟩|rfl|⟨h,h'⟩|rfl|⟨h,h'⟩|rfl|h
 ·have HV:=zH (leadV_eq (show leadS b=(1,0,0) by(unfold leadS;(repeat' split)<;>first|rfl|(exfalso;omega))))
  have g0:(b:Int)<128:=by omega
  (try clear h);(try clear h')
  go_enter Tryz.func171,Tryz.ntmps171
  go_wp2
  go_ret3
  exact⟨by rw [HV.out];rfl,rfl⟩
 ·have HV:=zH (leadV_eq (show leadS b=(0,0,0) by(unfold leadS;(repeat' split)<;>first|rfl|(exfalso;omega))))
  have g0:128≤(b:Int):=by omega
  have g1:(b:Int)<194:=by omega
  (try clear h);(try clear h')
  go_enter Tryz.func171,Tryz.ntmps171
  go_wp2
  go_ret3
  exact⟨by rw [HV.out];rfl,rfl⟩
 ·have HV:=zH (leadV_eq (show leadS b=(2,128,191) by(unfold leadS;(repeat' split)<;>first|rfl|(exfalso;omega))))
  have g0:194≤(b:Int):=by omega
  have g1:(b:Int)≤223:=by omega
  (try clear h);(try clear h')
  go_enter Tryz.func171,Tryz.ntmps171
  go_wp2
  go_ret3
  exact⟨by rw [HV.out];rfl,rfl⟩
 ·have HV:=zH (leadV_eq (b:=224) (show leadS 224=(3,160,191) by(first|decide|(unfold leadS;(repeat' split)<;>first|rfl|(exfalso;omega)))))
  (try clear h);(try clear h')
  go_enter Tryz.func171,Tryz.ntmps171
  go_wp2
  go_ret3
  exact⟨by rw [HV.out];rfl,rfl⟩
 ·have HV:=zH (leadV_eq (show leadS b=(3,128,191) by(unfold leadS;(repeat' split)<;>first|rfl|(exfalso;omega))))
  have g0:225≤(b:Int):=by omega
  have g1:(b:Int)≤236:=by omega
  (try clear h);(try clear h')
  go_enter Tryz.func171,Tryz.ntmps171
  go_wp2
  go_ret3
  exact⟨by rw [HV.out];rfl,rfl⟩
 ·have HV:=zH (leadV_eq (b:=237) (show leadS 237=(3,128,159) by(first|decide|(unfold leadS;(repeat' split)<;>first|rfl|(exfalso;omega)))))
  (try clear h);(try clear h')
  go_enter Tryz.func171,Tryz.ntmps171
  go_wp2
  go_ret3
  exact⟨by rw [HV.out];rfl,rfl⟩
 ·have HV:=zH (leadV_eq (show leadS b=(3,128,191) by(unfold leadS;(repeat' split)<;>first|rfl|(exfalso;omega))))
  have g0:238≤(b:Int):=by omega
  have g1:(b:Int)≤239:=by omega
  (try clear h);(try clear h')
  go_enter Tryz.func171,Tryz.ntmps171
  go_wp2
  go_ret3
  exact⟨by rw [HV.out];rfl,rfl⟩
 ·have HV:=zH (leadV_eq (b:=240) (show leadS 240=(4,144,191) by(first|decide|(unfold leadS;(repeat' split)<;>first|rfl|(exfalso;omega)))))
  (try clear h);(try clear h')
  go_enter Tryz.func171,Tryz.ntmps171
  go_wp2
  go_ret3
  exact⟨by rw [HV.out];rfl,rfl⟩
 ·have HV:=zH (leadV_eq (show leadS b=(4,128,191) by(unfold leadS;(repeat' split)<;>first|rfl|(exfalso;omega))))
  have g0:241≤(b:Int):=by omega
  have g1:(b:Int)≤243:=by omega
  (try clear h);(try clear h')
  go_enter Tryz.func171,Tryz.ntmps171
  go_wp2
  go_ret3
  exact⟨by rw [HV.out];rfl,rfl⟩
 ·have HV:=zH (leadV_eq (b:=244) (show leadS 244=(4,128,143) by(first|decide|(unfold leadS;(repeat' split)<;>first|rfl|(exfalso;omega)))))
  (try clear h);(try clear h')
  go_enter Tryz.func171,Tryz.ntmps171
  go_wp2
  go_ret3
  exact⟨by rw [HV.out];rfl,rfl⟩
 ·have HV:=zH (leadV_eq (show leadS b=(0,0,0) by(unfold leadS;(repeat' split)<;>first|rfl|(exfalso;omega))))
  have g0:245≤(b:Int):=by omega
  (try clear h);(try clear h')
  go_enter Tryz.func171,Tryz.ntmps171
  go_wp2
  go_ret3
  exact⟨by rw [HV.out];rfl,rfl⟩
theorem decode1_any (b:Nat) (s:ByteArray) (i:Nat) (hi:i<s.size) (w:World) (hc:w.cell? ⟨b,0,none⟩=some (.string s)) :
  Calls Tryz.prog 152 #[.int .i64 i,.pointer (some ⟨b,0,none⟩)] w (VRet (.int .u8 (s[i]).toNat) w):=by
 go_enter Tryz.func152,Tryz.ntmps152
 go_wp2
 go_ret
 exact⟨rfl,rfl⟩
end Go.Proofs.YtlenbcmgjancmaaGreatDoor
