/- The types of this seat. -/
import Derived.Test.YtkageldgmkajbaaVB
import Derived.Test.YtkageldgmkajbaaProg
namespace Go.Proofs.Ytkageldgmkajbaa
set_option linter.unusedVariables false
open Go.RowKit
def lay : Lay := [(2, ⟨[.int .i64 0], .int .i64, 8, none⟩),
  (3, ⟨[.int .i64 0], .int .i64, 8, some .int⟩),
  (4, ⟨[.tf false], .bool, 1, some .bool⟩),
  (5, ⟨[.int .u8 0], .int .u8, 1, none⟩),
  (9, ⟨[.str ⟨#[]⟩], .other, 16, none⟩),
  (21, ⟨[.int .i32 0], .int .i32, 4, none⟩),
  (22, ⟨[.val (.slice none 0 0)], .slice 3 1 false, 24, some .ints⟩),
  (24, ⟨[.val (.pointer none)], .other, 8, none⟩),
  (26, ⟨[.val (.slice none 0 0)], .slice 54 2 true, 24, none⟩),
  (27, ⟨[.val (.slice none 0 0)], .slice 52 2 true, 24, none⟩),
  (29, ⟨[.int .i64 0, .val (.slice none 0 0), .val (.slice none 0 0), .int .i64 0], .struct [⟨0, 1, false⟩, ⟨1, 1, false⟩, ⟨2, 1, false⟩, ⟨3, 1, false⟩], 64, none⟩),
  (33, ⟨[.val (.slice none 0 0)], .slice 22 1 false, 24, none⟩),
  (34, ⟨[.int .i64 0], .int .i64, 8, none⟩),
  (46, ⟨[.int .i64 0, .int .i64 0], .struct [⟨0, 1, false⟩, ⟨1, 1, false⟩], 16, none⟩),
  (52, ⟨[.int .i64 0, .int .i64 0], .struct [⟨0, 1, false⟩, ⟨1, 1, false⟩], 16, some .term⟩),
  (54, ⟨[.val (.slice none 0 0), .int .i64 0], .struct [⟨0, 1, false⟩, ⟨1, 1, false⟩], 32, some .row⟩),
  (56, ⟨[.val (.slice none 0 0), .int .i64 0], .struct [⟨0, 1, false⟩, ⟨1, 1, false⟩], 32, none⟩),
  (64, ⟨[.val .nilFunc], .other, 8, none⟩),
  (69, ⟨[.val (.slice none 0 0)], .slice 46 2 true, 24, none⟩),
  (71, ⟨[.val (.slice none 0 0)], .slice 69 1 false, 24, none⟩),
  (73, ⟨[.val (.slice none 0 0), .val (.slice none 0 0), .val (.slice none 0 0)], .struct [⟨0, 1, false⟩, ⟨1, 1, false⟩, ⟨2, 1, false⟩], 72, none⟩),
  (80, ⟨[.val .nilFunc], .other, 8, none⟩),
  (85, ⟨[.val (.pointer none)], .other, 8, none⟩),
  (87, ⟨[.int .u64 0], .int .u64, 8, none⟩),
  (89, ⟨[.int .u64 0, .int .u64 0], .struct [⟨0, 1, false⟩, ⟨1, 1, false⟩], 16, none⟩),
  (97, ⟨[.int .u64 0], .int .u64, 8, none⟩),
  (108, ⟨[.int .u32 0], .int .u32, 4, none⟩),
  (112, ⟨[.val (.pointer none)], .other, 8, none⟩)]
theorem lay_ok : LayOk Try.prog lay := ⟨⟨by kernel_rfl, by first | exact trivial | exact ⟨by kernel_rfl, by kernel_rfl⟩, by kernel_rfl, by kernel_rfl⟩, ⟨⟨by kernel_rfl, by first | exact trivial | exact ⟨by kernel_rfl, by kernel_rfl⟩, by kernel_rfl, by kernel_rfl⟩, ⟨⟨by kernel_rfl, by first | exact trivial | exact ⟨by kernel_rfl, by kernel_rfl⟩, by kernel_rfl, by kernel_rfl⟩, ⟨⟨by kernel_rfl, by first | exact trivial | exact ⟨by kernel_rfl, by kernel_rfl⟩, by kernel_rfl, by kernel_rfl⟩, ⟨⟨by kernel_rfl, by first | exact trivial | exact ⟨by kernel_rfl, by kernel_rfl⟩, by kernel_rfl, by kernel_rfl⟩, ⟨⟨by kernel_rfl, by first | exact trivial | exact ⟨by kernel_rfl, by kernel_rfl⟩, by kernel_rfl, by kernel_rfl⟩, ⟨⟨by kernel_rfl, by first | exact trivial | exact ⟨by kernel_rfl, by kernel_rfl⟩, by kernel_rfl, by kernel_rfl⟩, ⟨⟨by kernel_rfl, by first | exact trivial | exact ⟨by kernel_rfl, by kernel_rfl⟩, by kernel_rfl, by kernel_rfl⟩, ⟨⟨by kernel_rfl, by first | exact trivial | exact ⟨by kernel_rfl, by kernel_rfl⟩, by kernel_rfl, by kernel_rfl⟩, ⟨⟨by kernel_rfl, by first | exact trivial | exact ⟨by kernel_rfl, by kernel_rfl⟩, by kernel_rfl, by kernel_rfl⟩, ⟨⟨by kernel_rfl, by first | exact trivial | exact ⟨by kernel_rfl, by kernel_rfl⟩, by kernel_rfl, by kernel_rfl⟩, ⟨⟨by kernel_rfl, by first | exact trivial | exact ⟨by kernel_rfl, by kernel_rfl⟩, by kernel_rfl, by kernel_rfl⟩, ⟨⟨by kernel_rfl, by first | exact trivial | exact ⟨by kernel_rfl, by kernel_rfl⟩, by kernel_rfl, by kernel_rfl⟩, ⟨⟨by kernel_rfl, by first | exact trivial | exact ⟨by kernel_rfl, by kernel_rfl⟩, by kernel_rfl, by kernel_rfl⟩, ⟨⟨by kernel_rfl, by first | exact trivial | exact ⟨by kernel_rfl, by kernel_rfl⟩, by kernel_rfl, by kernel_rfl⟩, ⟨⟨by kernel_rfl, by first | exact trivial | exact ⟨by kernel_rfl, by kernel_rfl⟩, by kernel_rfl, by kernel_rfl⟩, ⟨⟨by kernel_rfl, by first | exact trivial | exact ⟨by kernel_rfl, by kernel_rfl⟩, by kernel_rfl, by kernel_rfl⟩, ⟨⟨by kernel_rfl, by first | exact trivial | exact ⟨by kernel_rfl, by kernel_rfl⟩, by kernel_rfl, by kernel_rfl⟩, ⟨⟨by kernel_rfl, by first | exact trivial | exact ⟨by kernel_rfl, by kernel_rfl⟩, by kernel_rfl, by kernel_rfl⟩, ⟨⟨by kernel_rfl, by first | exact trivial | exact ⟨by kernel_rfl, by kernel_rfl⟩, by kernel_rfl, by kernel_rfl⟩, ⟨⟨by kernel_rfl, by first | exact trivial | exact ⟨by kernel_rfl, by kernel_rfl⟩, by kernel_rfl, by kernel_rfl⟩, ⟨⟨by kernel_rfl, by first | exact trivial | exact ⟨by kernel_rfl, by kernel_rfl⟩, by kernel_rfl, by kernel_rfl⟩, ⟨⟨by kernel_rfl, by first | exact trivial | exact ⟨by kernel_rfl, by kernel_rfl⟩, by kernel_rfl, by kernel_rfl⟩, ⟨⟨by kernel_rfl, by first | exact trivial | exact ⟨by kernel_rfl, by kernel_rfl⟩, by kernel_rfl, by kernel_rfl⟩, ⟨⟨by kernel_rfl, by first | exact trivial | exact ⟨by kernel_rfl, by kernel_rfl⟩, by kernel_rfl, by kernel_rfl⟩, ⟨⟨by kernel_rfl, by first | exact trivial | exact ⟨by kernel_rfl, by kernel_rfl⟩, by kernel_rfl, by kernel_rfl⟩, ⟨⟨by kernel_rfl, by first | exact trivial | exact ⟨by kernel_rfl, by kernel_rfl⟩, by kernel_rfl, by kernel_rfl⟩, ⟨⟨by kernel_rfl, by first | exact trivial | exact ⟨by kernel_rfl, by kernel_rfl⟩, by kernel_rfl, by kernel_rfl⟩, trivial⟩⟩⟩⟩⟩⟩⟩⟩⟩⟩⟩⟩⟩⟩⟩⟩⟩⟩⟩⟩⟩⟩⟩⟩⟩⟩⟩⟩
theorem mixed_ok : Try.prog.follows .mixedOrders = true := by kernel_rfl
end Go.Proofs.Ytkageldgmkajbaa
