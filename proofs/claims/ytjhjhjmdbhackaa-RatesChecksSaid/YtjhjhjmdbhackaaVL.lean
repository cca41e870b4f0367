/- test. -/
import Derived.Test.YtjhjhjmdbhackaaVB
import Derived.Test.YtjhjhjmdbhackaaProg
namespace Go.Proofs.Ytjhjhjmdbhackaa
set_option linter.unusedVariables false
open Go.RowKit
def lay : Lay := [(2, ⟨[.int .i64 0], .int .i64, 8, none⟩),
  (3, ⟨[.int .i64 0], .int .i64, 8, some .int⟩),
  (4, ⟨[.tf false], .bool, 1, some .bool⟩),
  (5, ⟨[.int .u8 0], .int .u8, 1, none⟩),
  (9, ⟨[.str ⟨#[]⟩], .other, 16, none⟩),
  (21, ⟨[.int .i32 0], .int .i32, 4, none⟩),
  (22, ⟨[.val (.slice none 0 0)], .slice 3 1 false, 24, some .ints⟩),
  (23, ⟨[.val (.pointer none)], .other, 8, none⟩),
  (25, ⟨[.val (.slice none 0 0)], .slice 63 7 true, 24, none⟩),
  (28, ⟨[.val (.slice none 0 0)], .slice 34 3 true, 24, none⟩),
  (30, ⟨[.int .i64 0], .int .i64, 8, none⟩),
  (34, ⟨[.int .i64 0, .int .i64 0, .val (.slice none 0 0)], .struct [⟨0, 1, false⟩, ⟨1, 1, false⟩, ⟨2, 1, false⟩], 40, some .release⟩),
  (37, ⟨[.int .i64 0, .int .i64 0, .int .i64 0, .int .i64 0, .int .i64 0, .int .i64 0], .struct [⟨0, 1, false⟩, ⟨1, 1, false⟩, ⟨2, 1, false⟩, ⟨3, 1, false⟩, ⟨4, 1, false⟩, ⟨5, 1, false⟩], 48, none⟩),
  (38, ⟨[.val (.slice none 0 0)], .slice 43 5 true, 24, none⟩),
  (43, ⟨[.int .i64 0, .int .i64 0, .tf false, .int .i64 0, .int .i64 0], .struct [⟨0, 1, false⟩, ⟨1, 1, false⟩, ⟨2, 1, false⟩, ⟨3, 1, false⟩, ⟨4, 1, false⟩], 40, some .dist⟩),
  (44, ⟨[.val (.slice none 0 0)], .slice 37 6 true, 24, none⟩),
  (46, ⟨[.val (.slice none 0 0)], .slice 38 1 false, 24, none⟩),
  (52, ⟨[.val (.slice none 0 0)], .slice 56 2 true, 24, none⟩),
  (56, ⟨[.int .i64 0, .int .i64 0], .struct [⟨0, 1, false⟩, ⟨1, 1, false⟩], 16, some .answer⟩),
  (57, ⟨[.val (.slice none 0 0)], .slice 52 1 false, 24, none⟩),
  (61, ⟨[.val (.slice none 0 0)], .slice 65 2 true, 24, none⟩),
  (63, ⟨[.int .i64 0, .int .i64 0, .int .i64 0, .int .i64 0, .int .i64 0, .val (.slice none 0 0), .int .i64 0], .struct [⟨0, 1, false⟩, ⟨1, 1, false⟩, ⟨2, 1, false⟩, ⟨3, 1, false⟩, ⟨4, 1, false⟩, ⟨5, 1, false⟩, ⟨6, 1, false⟩], 72, some .job⟩),
  (65, ⟨[.int .i64 0, .int .i64 0], .struct [⟨0, 1, false⟩, ⟨1, 1, false⟩], 16, some .hold⟩),
  (74, ⟨[.int .i64 0, .int .i64 0], .array 2 1 false, 16, none⟩),
  (75, ⟨[.val (.slice none 0 0)], .slice 74 2 true, 24, none⟩),
  (78, ⟨[.val (.slice none 0 0), .int .i64 0], .struct [⟨0, 1, false⟩, ⟨1, 1, false⟩], 32, none⟩),
  (79, ⟨[.val (.slice none 0 0)], .slice 22 1 false, 24, none⟩),
  (81, ⟨[.int .i64 0, .int .i64 0, .int .i64 0, .int .i64 0], .array 4 1 false, 32, none⟩),
  (84, ⟨[.val (.slice none 0 0)], .slice 87 4 true, 24, none⟩),
  (87, ⟨[.int .i64 0, .int .i64 0, .int .i64 0, .int .i64 0], .struct [⟨0, 1, false⟩, ⟨1, 1, false⟩, ⟨2, 1, false⟩, ⟨3, 1, false⟩], 32, some .part⟩),
  (89, ⟨[.val (.slice none 0 0), .val (.slice none 0 0), .val (.slice none 0 0), .val (.slice none 0 0)], .array 4 1 false, 96, none⟩),
  (115, ⟨[.int .u32 0], .int .u32, 4, none⟩),
  (119, ⟨[.val (.pointer none)], .other, 8, none⟩)]
theorem lay_ok : LayOk Try.prog lay := ⟨⟨by kernel_rfl, by first | exact trivial | exact ⟨by kernel_rfl, by kernel_rfl⟩, by kernel_rfl, by kernel_rfl⟩, ⟨⟨by kernel_rfl, by first | exact trivial | exact ⟨by kernel_rfl, by kernel_rfl⟩, by kernel_rfl, by kernel_rfl⟩, ⟨⟨by kernel_rfl, by first | exact trivial | exact ⟨by kernel_rfl, by kernel_rfl⟩, by kernel_rfl, by kernel_rfl⟩, ⟨⟨by kernel_rfl, by first | exact trivial | exact ⟨by kernel_rfl, by kernel_rfl⟩, by kernel_rfl, by kernel_rfl⟩, ⟨⟨by kernel_rfl, by first | exact trivial | exact ⟨by kernel_rfl, by kernel_rfl⟩, by kernel_rfl, by kernel_rfl⟩, ⟨⟨by kernel_rfl, by first | exact trivial | exact ⟨by kernel_rfl, by kernel_rfl⟩, by kernel_rfl, by kernel_rfl⟩, ⟨⟨by kernel_rfl, by first | exact trivial | exact ⟨by kernel_rfl, by kernel_rfl⟩, by kernel_rfl, by kernel_rfl⟩, ⟨⟨by kernel_rfl, by first | exact trivial | exact ⟨by kernel_rfl, by kernel_rfl⟩, by kernel_rfl, by kernel_rfl⟩, ⟨⟨by kernel_rfl, by first | exact trivial | exact ⟨by kernel_rfl, by kernel_rfl⟩, by kernel_rfl, by kernel_rfl⟩, ⟨⟨by kernel_rfl, by first | exact trivial | exact ⟨by kernel_rfl, by kernel_rfl⟩, by kernel_rfl, by kernel_rfl⟩, ⟨⟨by kernel_rfl, by first | exact trivial | exact ⟨by kernel_rfl, by kernel_rfl⟩, by kernel_rfl, by kernel_rfl⟩, ⟨⟨by kernel_rfl, by first | exact trivial | exact ⟨by kernel_rfl, by kernel_rfl⟩, by kernel_rfl, by kernel_rfl⟩, ⟨⟨by kernel_rfl, by first | exact trivial | exact ⟨by kernel_rfl, by kernel_rfl⟩, by kernel_rfl, by kernel_rfl⟩, ⟨⟨by kernel_rfl, by first | exact trivial | exact ⟨by kernel_rfl, by kernel_rfl⟩, by kernel_rfl, by kernel_rfl⟩, ⟨⟨by kernel_rfl, by first | exact trivial | exact ⟨by kernel_rfl, by kernel_rfl⟩, by kernel_rfl, by kernel_rfl⟩, ⟨⟨by kernel_rfl, by first | exact trivial | exact ⟨by kernel_rfl, by kernel_rfl⟩, by kernel_rfl, by kernel_rfl⟩, ⟨⟨by kernel_rfl, by first | exact trivial | exact ⟨by kernel_rfl, by kernel_rfl⟩, by kernel_rfl, by kernel_rfl⟩, ⟨⟨by kernel_rfl, by first | exact trivial | exact ⟨by kernel_rfl, by kernel_rfl⟩, by kernel_rfl, by kernel_rfl⟩, ⟨⟨by kernel_rfl, by first | exact trivial | exact ⟨by kernel_rfl, by kernel_rfl⟩, by kernel_rfl, by kernel_rfl⟩, ⟨⟨by kernel_rfl, by first | exact trivial | exact ⟨by kernel_rfl, by kernel_rfl⟩, by kernel_rfl, by kernel_rfl⟩, ⟨⟨by kernel_rfl, by first | exact trivial | exact ⟨by kernel_rfl, by kernel_rfl⟩, by kernel_rfl, by kernel_rfl⟩, ⟨⟨by kernel_rfl, by first | exact trivial | exact ⟨by kernel_rfl, by kernel_rfl⟩, by kernel_rfl, by kernel_rfl⟩, ⟨⟨by kernel_rfl, by first | exact trivial | exact ⟨by kernel_rfl, by kernel_rfl⟩, by kernel_rfl, by kernel_rfl⟩, ⟨⟨by kernel_rfl, by first | exact trivial | exact ⟨by kernel_rfl, by kernel_rfl⟩, by kernel_rfl, by kernel_rfl⟩, ⟨⟨by kernel_rfl, by first | exact trivial | exact ⟨by kernel_rfl, by kernel_rfl⟩, by kernel_rfl, by kernel_rfl⟩, ⟨⟨by kernel_rfl, by first | exact trivial | exact ⟨by kernel_rfl, by kernel_rfl⟩, by kernel_rfl, by kernel_rfl⟩, ⟨⟨by kernel_rfl, by first | exact trivial | exact ⟨by kernel_rfl, by kernel_rfl⟩, by kernel_rfl, by kernel_rfl⟩, ⟨⟨by kernel_rfl, by first | exact trivial | exact ⟨by kernel_rfl, by kernel_rfl⟩, by kernel_rfl, by kernel_rfl⟩, ⟨⟨by kernel_rfl, by first | exact trivial | exact ⟨by kernel_rfl, by kernel_rfl⟩, by kernel_rfl, by kernel_rfl⟩, ⟨⟨by kernel_rfl, by first | exact trivial | exact ⟨by kernel_rfl, by kernel_rfl⟩, by kernel_rfl, by kernel_rfl⟩, ⟨⟨by kernel_rfl, by first | exact trivial | exact ⟨by kernel_rfl, by kernel_rfl⟩, by kernel_rfl, by kernel_rfl⟩, ⟨⟨by kernel_rfl, by first | exact trivial | exact ⟨by kernel_rfl, by kernel_rfl⟩, by kernel_rfl, by kernel_rfl⟩, ⟨⟨by kernel_rfl, by first | exact trivial | exact ⟨by kernel_rfl, by kernel_rfl⟩, by kernel_rfl, by kernel_rfl⟩, trivial⟩⟩⟩⟩⟩⟩⟩⟩⟩⟩⟩⟩⟩⟩⟩⟩⟩⟩⟩⟩⟩⟩⟩⟩⟩⟩⟩⟩⟩⟩⟩⟩⟩
theorem mixed_ok : Try.prog.follows .mixedOrders = true := by kernel_rfl
end Go.Proofs.Ytjhjhjmdbhackaa
