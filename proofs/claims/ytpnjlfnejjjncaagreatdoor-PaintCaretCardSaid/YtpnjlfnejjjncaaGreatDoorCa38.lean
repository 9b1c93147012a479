/-
  The runs of frescolaw20.alone by the abstract machine. No condition.
-/
import Derived.Test.YtpnjlfnejjjncaaGreatDoorCa05
import Derived.Test.YtpnjlfnejjjncaaGreatDoorCa27
import Derived.Test.YtpnjlfnejjjncaaGreatDoorCa28
import Derived.Test.YtpnjlfnejjjncaaGreatDoorCa29
import Derived.Test.YtpnjlfnejjjncaaGreatDoorCa30
import Derived.Test.YtpnjlfnejjjncaaGreatDoorCa31
import Derived.Test.YtpnjlfnejjjncaaGreatDoorCa32
import Derived.Test.YtpnjlfnejjjncaaGreatDoorCa33
import Derived.Test.YtpnjlfnejjjncaaGreatDoorCa34
import Derived.Test.YtpnjlfnejjjncaaGreatDoorCa35
import Derived.Test.YtpnjlfnejjjncaaGreatDoorCa36
import Derived.Test.YtpnjlfnejjjncaaGreatDoorCa37
set_option linter.unusedVariables false
set_option linter.unusedSimpArgs false
namespace Go.Proofs.YtpnjlfnejjjncaaGreatDoor
theorem al_all (n : Nat) (h : 1 ≤ n ∧ n ≤ 60) : okAl n (alRun n) = true := by
  have h : n = 1 ∨ n = 2 ∨ n = 3 ∨ n = 4 ∨ n = 5 ∨ n = 6 ∨ n = 7 ∨ n = 8 ∨ n = 9 ∨ n = 10 ∨ n = 11 ∨ n = 12 ∨ n = 13 ∨ n = 14 ∨ n = 15 ∨ n = 16 ∨ n = 17 ∨ n = 18 ∨ n = 19 ∨ n = 20 ∨ n = 21 ∨ n = 22 ∨ n = 23 ∨ n = 24 ∨ n = 25 ∨ n = 26 ∨ n = 27 ∨ n = 28 ∨ n = 29 ∨ n = 30 ∨ n = 31 ∨ n = 32 ∨ n = 33 ∨ n = 34 ∨ n = 35 ∨ n = 36 ∨ n = 37 ∨ n = 38 ∨ n = 39 ∨ n = 40 ∨ n = 41 ∨ n = 42 ∨ n = 43 ∨ n = 44 ∨ n = 45 ∨ n = 46 ∨ n = 47 ∨ n = 48 ∨ n = 49 ∨ n = 50 ∨ n = 51 ∨ n = 52 ∨ n = 53 ∨ n = 54 ∨ n = 55 ∨ n = 56 ∨ n = 57 ∨ n = 58 ∨ n = 59 ∨ n = 60 := by omega
  rcases h with rfl | rfl | rfl | rfl | rfl | rfl | rfl | rfl | rfl | rfl | rfl | rfl | rfl | rfl | rfl | rfl | rfl | rfl | rfl | rfl | rfl | rfl | rfl | rfl | rfl | rfl | rfl | rfl | rfl | rfl | rfl | rfl | rfl | rfl | rfl | rfl | rfl | rfl | rfl | rfl | rfl | rfl | rfl | rfl | rfl | rfl | rfl | rfl | rfl | rfl | rfl | rfl | rfl | rfl | rfl | rfl | rfl | rfl | rfl | rfl
  · exact al1
  · exact al2
  · exact al3
  · exact al4
  · exact al5
  · exact al6
  · exact al7
  · exact al8
  · exact al9
  · exact al10
  · exact al11
  · exact al12
  · exact al13
  · exact al14
  · exact al15
  · exact al16
  · exact al17
  · exact al18
  · exact al19
  · exact al20
  · exact al21
  · exact al22
  · exact al23
  · exact al24
  · exact al25
  · exact al26
  · exact al27
  · exact al28
  · exact al29
  · exact al30
  · exact al31
  · exact al32
  · exact al33
  · exact al34
  · exact al35
  · exact al36
  · exact al37
  · exact al38
  · exact al39
  · exact al40
  · exact al41
  · exact al42
  · exact al43
  · exact al44
  · exact al45
  · exact al46
  · exact al47
  · exact al48
  · exact al49
  · exact al50
  · exact al51
  · exact al52
  · exact al53
  · exact al54
  · exact al55
  · exact al56
  · exact al57
  · exact al58
  · exact al59
  · exact al60
end Go.Proofs.YtpnjlfnejjjncaaGreatDoor
