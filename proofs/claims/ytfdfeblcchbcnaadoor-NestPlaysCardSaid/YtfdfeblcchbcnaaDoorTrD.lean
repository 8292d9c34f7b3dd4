/- The document's Take, whatever the tag. Conditions: counts within what they may be. -/
import Derived.Test.YtfdfeblcchbcnaaDoorTrA
import Derived.Test.YtfdfeblcchbcnaaDoorTrB
import Derived.Test.YtfdfeblcchbcnaaDoorTrC
namespace Go.Proofs.YtfdfeblcchbcnaaDoor
open Go.RowKit

theorem rtake_any (s : NS) (v : Nat) (name : ByteArray) (en sg : Bool) (w : World) (ho : okN s) (hn : valOf name.data.toList = v) :
    Calls Tryd.prog 17 #[stV s, .bool en, .bool sg, .string name] w (RTakeAns w s v en sg) := by
  obtain ⟨h, p, n⟩ := s
  cases hal : (h == 0) <;> cases hb2 : bitB v 2 <;> cases en <;> cases sg
  · exact rt_0000x h p n v name w ho hn hb2 hal
  · exact rt_0001x h p n v name w ho hn hb2 hal
  · exact rt_0100x h p n v name w ho hn hb2 hal
  · exact rt_0101x h p n v name w ho hn hb2 hal
  · exact rt_0010x h p n v name w ho hn hb2 hal
  · exact rt_0011x h p n v name w ho hn hb2 hal
  · exact rt_0110x h p n v name w ho hn hb2 hal
  · exact rt_0111x h p n v name w ho hn hb2 hal
  · cases hb1 : bitB v 1
    · exact rt_10000 h p n v name w ho hn hb1 hb2 hal
    · exact rt_10001 h p n v name w ho hn hb1 hb2 hal
  · cases hb1 : bitB v 1
    · exact rt_10010 h p n v name w ho hn hb1 hb2 hal
    · exact rt_10011 h p n v name w ho hn hb1 hb2 hal
  · cases hb1 : bitB v 1
    · exact rt_11000 h p n v name w ho hn hb1 hb2 hal
    · exact rt_11001 h p n v name w ho hn hb1 hb2 hal
  · cases hb1 : bitB v 1
    · exact rt_11010 h p n v name w ho hn hb1 hb2 hal
    · exact rt_11011 h p n v name w ho hn hb1 hb2 hal
  · cases hb1 : bitB v 1
    · exact rt_10100 h p n v name w ho hn hb1 hb2 hal
    · exact rt_10101 h p n v name w ho hn hb1 hb2 hal
  · cases hb1 : bitB v 1
    · exact rt_10110 h p n v name w ho hn hb1 hb2 hal
    · exact rt_10111 h p n v name w ho hn hb1 hb2 hal
  · cases hb1 : bitB v 1
    · exact rt_11100 h p n v name w ho hn hb1 hb2 hal
    · exact rt_11101 h p n v name w ho hn hb1 hb2 hal
  · cases hb1 : bitB v 1
    · exact rt_11110 h p n v name w ho hn hb1 hb2 hal
    · exact rt_11111 h p n v name w ho hn hb1 hb2 hal
end Go.Proofs.YtfdfeblcchbcnaaDoor
