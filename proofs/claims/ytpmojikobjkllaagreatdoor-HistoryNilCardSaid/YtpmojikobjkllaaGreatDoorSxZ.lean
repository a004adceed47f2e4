/- The run of known: its parts joined. -/
import Derived.Test.YtpmojikobjkllaaGreatDoorSxV
import Derived.Test.YtpmojikobjkllaaGreatDoorSxY0
import Derived.Test.YtpmojikobjkllaaGreatDoorSxY1
import Derived.Test.YtpmojikobjkllaaGreatDoorSxY2
namespace Go.Sx.Tab
open Go Go.Sx

theorem k0 : e0.OK Tab.run := Entry.ok_of_check runOK c0

theorem k1 : e1.OK Tab.run := Entry.ok_of_check runOK c1

theorem k2 : e2.OK Tab.run := Entry.ok_next runOK (l := [e1]) (fun e he => by
  simp only [List.mem_cons, List.not_mem_nil, or_false] at he
  rcases he with rfl
  · exact k1) c2

theorem k3 : e3.OK Tab.run := Entry.ok_of_check runOK c3

theorem k4 : e4.OK Tab.run := Entry.ok_next runOK (l := [e3]) (fun e he => by
  simp only [List.mem_cons, List.not_mem_nil, or_false] at he
  rcases he with rfl
  · exact k3) c4

theorem kr : er.OK Tab.run := Entry.ok_next runOK (l := [e0, e2, e4]) (fun e he => by
  simp only [List.mem_cons, List.not_mem_nil, or_false] at he
  rcases he with rfl | rfl | rfl
  · exact k0
  · exact k2
  · exact k4) cr

#print axioms kr
end Go.Sx.Tab
