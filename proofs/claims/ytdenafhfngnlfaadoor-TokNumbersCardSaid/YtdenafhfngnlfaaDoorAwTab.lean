/- The layout of the program's types. -/
import Derived.Test.YtdenafhfngnlfaaDoorAwA
import Derived.Test.YtdenafhfngnlfaaDoorProg
import Derived.KernelRfl
namespace Go.Proofs.YtdenafhfngnlfaaDoor.Aw
open Go
def tab : Tab := [
  ⟨.invalid, 0, 0, [], .tuple #[]⟩,
  ⟨.func #[] #[] false, 1, 8, [.nilFunc], .nilFunc⟩,
  ⟨.int .i64, 1, 8, [.int .i64 0], .int .i64 0⟩,
  ⟨.int .i64, 1, 8, [.int .i64 0], .int .i64 0⟩,
  ⟨.bool, 1, 1, [.bool false], .bool false⟩,
  ⟨.int .u8, 1, 1, [.int .u8 0], .int .u8 0⟩,
  ⟨.int .u8, 1, 1, [.int .u8 0], .int .u8 0⟩,
  ⟨.invalid, 0, 0, [], .tuple #[]⟩,
  ⟨.invalid, 0, 0, [], .tuple #[]⟩,
  ⟨.string, 1, 16, [.string ⟨#[]⟩], .string ⟨#[]⟩⟩,
  ⟨.string, 1, 16, [.string ⟨#[]⟩], .string ⟨#[]⟩⟩,
  ⟨.string, 1, 16, [.string ⟨#[]⟩], .string ⟨#[]⟩⟩,
  ⟨.int .u64, 1, 8, [.int .u64 0], .int .u64 0⟩,
  ⟨.invalid, 0, 0, [], .tuple #[]⟩,
  ⟨.invalid, 0, 0, [], .tuple #[]⟩,
  ⟨.pointer 82, 1, 8, [.pointer none], .pointer none⟩,
  ⟨.pointer 85, 1, 8, [.pointer none], .pointer none⟩,
  ⟨.pointer 93, 1, 8, [.pointer none], .pointer none⟩,
  ⟨.invalid, 0, 0, [], .tuple #[]⟩,
  ⟨.invalid, 0, 0, [], .tuple #[]⟩,
  ⟨.invalid, 0, 0, [], .tuple #[]⟩,
  ⟨.int .i32, 1, 4, [.int .i32 0], .int .i32 0⟩,
  ⟨.func #[] #[4] false, 1, 8, [.nilFunc], .nilFunc⟩,
  ⟨.func #[9] #[4] false, 1, 8, [.nilFunc], .nilFunc⟩,
  ⟨.slice 9, 1, 24, [.slice none 0 0], .slice none 0 0⟩,
  ⟨.struct #[⟨"Kind", 3, 0, false, "", "", 0⟩, ⟨"Text", 9, 1, false, "", "", 8⟩, ⟨"N", 3, 2, false, "", "", 24⟩, ⟨"Whole", 4, 3, false, "", "", 32⟩, ⟨"C", 3, 4, false, "", "", 40⟩], 5, 48, [.int .i64 0, .string ⟨#[]⟩, .int .i64 0, .bool false, .int .i64 0], .agg #[.int .i64 0, .string ⟨#[]⟩, .int .i64 0, .bool false, .int .i64 0]⟩,
  ⟨.struct #[⟨"Kind", 3, 0, false, "", "", 0⟩, ⟨"Text", 9, 1, false, "", "", 8⟩, ⟨"N", 3, 2, false, "", "", 24⟩, ⟨"Whole", 4, 3, false, "", "", 32⟩, ⟨"C", 3, 4, false, "", "", 40⟩], 5, 48, [.int .i64 0, .string ⟨#[]⟩, .int .i64 0, .bool false, .int .i64 0], .agg #[.int .i64 0, .string ⟨#[]⟩, .int .i64 0, .bool false, .int .i64 0]⟩,
  ⟨.slice 26, 1, 24, [.slice none 0 0], .slice none 0 0⟩,
  ⟨.slice 27, 1, 24, [.slice none 0 0], .slice none 0 0⟩,
  ⟨.func #[27, 27] #[4] false, 1, 8, [.nilFunc], .nilFunc⟩,
  ⟨.func #[31] #[27] false, 1, 8, [.nilFunc], .nilFunc⟩,
  ⟨.slice 5, 1, 24, [.slice none 0 0], .slice none 0 0⟩,
  ⟨.func #[9, 3] #[4] false, 1, 8, [.nilFunc], .nilFunc⟩,
  ⟨.func #[9, 4, 4] #[4] false, 1, 8, [.nilFunc], .nilFunc⟩,
  ⟨.func #[3] #[9] false, 1, 8, [.nilFunc], .nilFunc⟩,
  ⟨.func #[3, 3, 4, 3] #[4] false, 1, 8, [.nilFunc], .nilFunc⟩,
  ⟨.func #[31, 31, 31] #[4] false, 1, 8, [.nilFunc], .nilFunc⟩,
  ⟨.int .u64, 1, 8, [.int .u64 0], .int .u64 0⟩,
  ⟨.func #[39] #[31] false, 1, 8, [.nilFunc], .nilFunc⟩,
  ⟨.slice 3, 1, 24, [.slice none 0 0], .slice none 0 0⟩,
  ⟨.func #[3, 4] #[4] false, 1, 8, [.nilFunc], .nilFunc⟩,
  ⟨.func #[5] #[4] false, 1, 8, [.nilFunc], .nilFunc⟩,
  ⟨.func #[31, 31] #[4] false, 1, 8, [.nilFunc], .nilFunc⟩,
  ⟨.func #[39] #[4] false, 1, 8, [.nilFunc], .nilFunc⟩,
  ⟨.func #[39] #[27] false, 1, 8, [.nilFunc], .nilFunc⟩,
  ⟨.func #[31] #[39] false, 1, 8, [.nilFunc], .nilFunc⟩,
  ⟨.func #[31, 3] #[31] false, 1, 8, [.nilFunc], .nilFunc⟩,
  ⟨.func #[53] #[] false, 1, 8, [.nilFunc], .nilFunc⟩,
  ⟨.func #[39] #[47] false, 1, 8, [.nilFunc], .nilFunc⟩,
  ⟨.func #[39] #[39] false, 1, 8, [.nilFunc], .nilFunc⟩,
  ⟨.func #[52] #[] false, 1, 8, [.nilFunc], .nilFunc⟩,
  ⟨.func #[31] #[50] false, 1, 8, [.nilFunc], .nilFunc⟩,
  ⟨.func #[3] #[4] false, 1, 8, [.nilFunc], .nilFunc⟩,
  ⟨.func #[26] #[4] false, 1, 8, [.nilFunc], .nilFunc⟩,
  ⟨.pointer 56, 1, 8, [.pointer none], .pointer none⟩,
  ⟨.struct #[⟨"l", 39, 0, false, "", "tapestrier/tok", 0⟩, ⟨"i", 3, 1, false, "", "tapestrier/tok", 24⟩], 2, 32, [.slice none 0 0, .int .i64 0], .agg #[.slice none 0 0, .int .i64 0]⟩,
  ⟨.struct #[⟨"l", 39, 0, false, "", "tapestrier/tok", 0⟩, ⟨"i", 3, 1, false, "", "tapestrier/tok", 24⟩], 2, 32, [.slice none 0 0, .int .i64 0], .agg #[.slice none 0 0, .int .i64 0]⟩,
  ⟨.func #[] #[26] false, 1, 8, [.nilFunc], .nilFunc⟩,
  ⟨.invalid, 0, 0, [], .tuple #[]⟩,
  ⟨.func #[31] #[21, 3] false, 1, 8, [.nilFunc], .nilFunc⟩,
  ⟨.func #[3] #[3] false, 1, 8, [.nilFunc], .nilFunc⟩,
  ⟨.func #[3] #[26] false, 1, 8, [.nilFunc], .nilFunc⟩,
  ⟨.func #[] #[3] false, 1, 8, [.nilFunc], .nilFunc⟩,
  ⟨.func #[] #[9] false, 1, 8, [.nilFunc], .nilFunc⟩,
  ⟨.func #[31] #[31] false, 1, 8, [.nilFunc], .nilFunc⟩,
  ⟨.invalid, 0, 0, [], .tuple #[]⟩,
  ⟨.func #[9] #[3, 4] false, 1, 8, [.nilFunc], .nilFunc⟩,
  ⟨.array 256 5, 256, 256, [.int .u8 0, .int .u8 0, .int .u8 0, .int .u8 0, .int .u8 0, .int .u8 0, .int .u8 0, .int .u8 0, .int .u8 0, .int .u8 0, .int .u8 0, .int .u8 0, .int .u8 0, .int .u8 0, .int .u8 0, .int .u8 0, .int .u8 0, .int .u8 0, .int .u8 0, .int .u8 0, .int .u8 0, .int .u8 0, .int .u8 0, .int .u8 0, .int .u8 0, .int .u8 0, .int .u8 0, .int .u8 0, .int .u8 0, .int .u8 0, .int .u8 0, .int .u8 0, .int .u8 0, .int .u8 0, .int .u8 0, .int .u8 0, .int .u8 0, .int .u8 0, .int .u8 0, .int .u8 0, .int .u8 0, .int .u8 0, .int .u8 0, .int .u8 0, .int .u8 0, .int .u8 0, .int .u8 0, .int .u8 0, .int .u8 0, .int .u8 0, .int .u8 0, .int .u8 0, .int .u8 0, .int .u8 0, .int .u8 0, .int .u8 0, .int .u8 0, .int .u8 0, .int .u8 0, .int .u8 0, .int .u8 0, .int .u8 0, .int .u8 0, .int .u8 0, .int .u8 0, .int .u8 0, .int .u8 0, .int .u8 0, .int .u8 0, .int .u8 0, .int .u8 0, .int .u8 0, .int .u8 0, .int .u8 0, .int .u8 0, .int .u8 0, .int .u8 0, .int .u8 0, .int .u8 0, .int .u8 0, .int .u8 0, .int .u8 0, .int .u8 0, .int .u8 0, .int .u8 0, .int .u8 0, .int .u8 0, .int .u8 0, .int .u8 0, .int .u8 0, .int .u8 0, .int .u8 0, .int .u8 0, .int .u8 0, .int .u8 0, .int .u8 0, .int .u8 0, .int .u8 0, .int .u8 0, .int .u8 0, .int .u8 0, .int .u8 0, .int .u8 0, .int .u8 0, .int .u8 0, .int .u8 0, .int .u8 0, .int .u8 0, .int .u8 0, .int .u8 0, .int .u8 0, .int .u8 0, .int .u8 0, .int .u8 0, .int .u8 0, .int .u8 0, .int .u8 0, .int .u8 0, .int .u8 0, .int .u8 0, .int .u8 0, .int .u8 0, .int .u8 0, .int .u8 0, .int .u8 0, .int .u8 0, .int .u8 0, .int .u8 0, .int .u8 0, .int .u8 0, .int .u8 0, .int .u8 0, .int .u8 0, .int .u8 0, .int .u8 0, .int .u8 0, .int .u8 0, .int .u8 0, .int .u8 0, .int .u8 0, .int .u8 0, .int .u8 0, .int .u8 0, .int .u8 0, .int .u8 0, .int .u8 0, .int .u8 0, .int .u8 0, .int .u8 0, .int .u8 0, .int .u8 0, .int .u8 0, .int .u8 0, .int .u8 0, .int .u8 0, .int .u8 0, .int .u8 0, .int .u8 0, .int .u8 0, .int .u8 0, .int .u8 0, .int .u8 0, .int .u8 0, .int .u8 0, .int .u8 0, .int .u8 0, .int .u8 0, .int .u8 0, .int .u8 0, .int .u8 0, .int .u8 0, .int .u8 0, .int .u8 0, .int .u8 0, .int .u8 0, .int .u8 0, .int .u8 0, .int .u8 0, .int .u8 0, .int .u8 0, .int .u8 0, .int .u8 0, .int .u8 0, .int .u8 0, .int .u8 0, .int .u8 0, .int .u8 0, .int .u8 0, .int .u8 0, .int .u8 0, .int .u8 0, .int .u8 0, .int .u8 0, .int .u8 0, .int .u8 0, .int .u8 0, .int .u8 0, .int .u8 0, .int .u8 0, .int .u8 0, .int .u8 0, .int .u8 0, .int .u8 0, .int .u8 0, .int .u8 0, .int .u8 0, .int .u8 0, .int .u8 0, .int .u8 0, .int .u8 0, .int .u8 0, .int .u8 0, .int .u8 0, .int .u8 0, .int .u8 0, .int .u8 0, .int .u8 0, .int .u8 0, .int .u8 0, .int .u8 0, .int .u8 0, .int .u8 0, .int .u8 0, .int .u8 0, .int .u8 0, .int .u8 0, .int .u8 0, .int .u8 0, .int .u8 0, .int .u8 0, .int .u8 0, .int .u8 0, .int .u8 0, .int .u8 0, .int .u8 0, .int .u8 0, .int .u8 0, .int .u8 0, .int .u8 0, .int .u8 0, .int .u8 0, .int .u8 0, .int .u8 0, .int .u8 0, .int .u8 0, .int .u8 0, .int .u8 0, .int .u8 0, .int .u8 0, .int .u8 0, .int .u8 0, .int .u8 0, .int .u8 0, .int .u8 0, .int .u8 0, .int .u8 0], .agg #[.int .u8 0, .int .u8 0, .int .u8 0, .int .u8 0, .int .u8 0, .int .u8 0, .int .u8 0, .int .u8 0, .int .u8 0, .int .u8 0, .int .u8 0, .int .u8 0, .int .u8 0, .int .u8 0, .int .u8 0, .int .u8 0, .int .u8 0, .int .u8 0, .int .u8 0, .int .u8 0, .int .u8 0, .int .u8 0, .int .u8 0, .int .u8 0, .int .u8 0, .int .u8 0, .int .u8 0, .int .u8 0, .int .u8 0, .int .u8 0, .int .u8 0, .int .u8 0, .int .u8 0, .int .u8 0, .int .u8 0, .int .u8 0, .int .u8 0, .int .u8 0, .int .u8 0, .int .u8 0, .int .u8 0, .int .u8 0, .int .u8 0, .int .u8 0, .int .u8 0, .int .u8 0, .int .u8 0, .int .u8 0, .int .u8 0, .int .u8 0, .int .u8 0, .int .u8 0, .int .u8 0, .int .u8 0, .int .u8 0, .int .u8 0, .int .u8 0, .int .u8 0, .int .u8 0, .int .u8 0, .int .u8 0, .int .u8 0, .int .u8 0, .int .u8 0, .int .u8 0, .int .u8 0, .int .u8 0, .int .u8 0, .int .u8 0, .int .u8 0, .int .u8 0, .int .u8 0, .int .u8 0, .int .u8 0, .int .u8 0, .int .u8 0, .int .u8 0, .int .u8 0, .int .u8 0, .int .u8 0, .int .u8 0, .int .u8 0, .int .u8 0, .int .u8 0, .int .u8 0, .int .u8 0, .int .u8 0, .int .u8 0, .int .u8 0, .int .u8 0, .int .u8 0, .int .u8 0, .int .u8 0, .int .u8 0, .int .u8 0, .int .u8 0, .int .u8 0, .int .u8 0, .int .u8 0, .int .u8 0, .int .u8 0, .int .u8 0, .int .u8 0, .int .u8 0, .int .u8 0, .int .u8 0, .int .u8 0, .int .u8 0, .int .u8 0, .int .u8 0, .int .u8 0, .int .u8 0, .int .u8 0, .int .u8 0, .int .u8 0, .int .u8 0, .int .u8 0, .int .u8 0, .int .u8 0, .int .u8 0, .int .u8 0, .int .u8 0, .int .u8 0, .int .u8 0, .int .u8 0, .int .u8 0, .int .u8 0, .int .u8 0, .int .u8 0, .int .u8 0, .int .u8 0, .int .u8 0, .int .u8 0, .int .u8 0, .int .u8 0, .int .u8 0, .int .u8 0, .int .u8 0, .int .u8 0, .int .u8 0, .int .u8 0, .int .u8 0, .int .u8 0, .int .u8 0, .int .u8 0, .int .u8 0, .int .u8 0, .int .u8 0, .int .u8 0, .int .u8 0, .int .u8 0, .int .u8 0, .int .u8 0, .int .u8 0, .int .u8 0, .int .u8 0, .int .u8 0, .int .u8 0, .int .u8 0, .int .u8 0, .int .u8 0, .int .u8 0, .int .u8 0, .int .u8 0, .int .u8 0, .int .u8 0, .int .u8 0, .int .u8 0, .int .u8 0, .int .u8 0, .int .u8 0, .int .u8 0, .int .u8 0, .int .u8 0, .int .u8 0, .int .u8 0, .int .u8 0, .int .u8 0, .int .u8 0, .int .u8 0, .int .u8 0, .int .u8 0, .int .u8 0, .int .u8 0, .int .u8 0, .int .u8 0, .int .u8 0, .int .u8 0, .int .u8 0, .int .u8 0, .int .u8 0, .int .u8 0, .int .u8 0, .int .u8 0, .int .u8 0, .int .u8 0, .int .u8 0, .int .u8 0, .int .u8 0, .int .u8 0, .int .u8 0, .int .u8 0, .int .u8 0, .int .u8 0, .int .u8 0, .int .u8 0, .int .u8 0, .int .u8 0, .int .u8 0, .int .u8 0, .int .u8 0, .int .u8 0, .int .u8 0, .int .u8 0, .int .u8 0, .int .u8 0, .int .u8 0, .int .u8 0, .int .u8 0, .int .u8 0, .int .u8 0, .int .u8 0, .int .u8 0, .int .u8 0, .int .u8 0, .int .u8 0, .int .u8 0, .int .u8 0, .int .u8 0, .int .u8 0, .int .u8 0, .int .u8 0, .int .u8 0, .int .u8 0, .int .u8 0, .int .u8 0, .int .u8 0, .int .u8 0, .int .u8 0, .int .u8 0, .int .u8 0, .int .u8 0, .int .u8 0, .int .u8 0, .int .u8 0, .int .u8 0, .int .u8 0, .int .u8 0, .int .u8 0, .int .u8 0, .int .u8 0, .int .u8 0, .int .u8 0, .int .u8 0, .int .u8 0, .int .u8 0]⟩,
  ⟨.struct #[⟨"lo", 5, 0, false, "", "unicode/utf8", 0⟩, ⟨"hi", 5, 1, false, "", "unicode/utf8", 1⟩], 2, 2, [.int .u8 0, .int .u8 0], .agg #[.int .u8 0, .int .u8 0]⟩,
  ⟨.struct #[⟨"lo", 5, 0, false, "", "unicode/utf8", 0⟩, ⟨"hi", 5, 1, false, "", "unicode/utf8", 1⟩], 2, 2, [.int .u8 0, .int .u8 0], .agg #[.int .u8 0, .int .u8 0]⟩,
  ⟨.array 16 69, 32, 32, [.int .u8 0, .int .u8 0, .int .u8 0, .int .u8 0, .int .u8 0, .int .u8 0, .int .u8 0, .int .u8 0, .int .u8 0, .int .u8 0, .int .u8 0, .int .u8 0, .int .u8 0, .int .u8 0, .int .u8 0, .int .u8 0, .int .u8 0, .int .u8 0, .int .u8 0, .int .u8 0, .int .u8 0, .int .u8 0, .int .u8 0, .int .u8 0, .int .u8 0, .int .u8 0, .int .u8 0, .int .u8 0, .int .u8 0, .int .u8 0, .int .u8 0, .int .u8 0], .agg #[.int .u8 0, .int .u8 0, .int .u8 0, .int .u8 0, .int .u8 0, .int .u8 0, .int .u8 0, .int .u8 0, .int .u8 0, .int .u8 0, .int .u8 0, .int .u8 0, .int .u8 0, .int .u8 0, .int .u8 0, .int .u8 0, .int .u8 0, .int .u8 0, .int .u8 0, .int .u8 0, .int .u8 0, .int .u8 0, .int .u8 0, .int .u8 0, .int .u8 0, .int .u8 0, .int .u8 0, .int .u8 0, .int .u8 0, .int .u8 0, .int .u8 0, .int .u8 0]⟩,
  ⟨.func #[31, 21] #[31] false, 1, 8, [.nilFunc], .nilFunc⟩,
  ⟨.func #[9, 9] #[4] false, 1, 8, [.nilFunc], .nilFunc⟩,
  ⟨.invalid, 0, 0, [], .tuple #[]⟩,
  ⟨.func #[9, 9] #[9, 9, 4] false, 1, 8, [.nilFunc], .nilFunc⟩,
  ⟨.int .u32, 1, 4, [.int .u32 0], .int .u32 0⟩,
  ⟨.func #[3, 3, 3] #[3] false, 1, 8, [.nilFunc], .nilFunc⟩,
  ⟨.func #[9, 9] #[3] false, 1, 8, [.nilFunc], .nilFunc⟩,
  ⟨.func #[9, 5] #[3] false, 1, 8, [.nilFunc], .nilFunc⟩,
  ⟨.invalid, 0, 0, [], .tuple #[]⟩,
  ⟨.func #[9] #[75, 75] false, 1, 8, [.nilFunc], .nilFunc⟩,
  ⟨.invalid, 0, 0, [], .tuple #[]⟩,
  ⟨.invalid, 0, 0, [], .tuple #[]⟩,
  ⟨.array 0 16, 0, 0, [], .agg #[]⟩,
  ⟨.invalid, 0, 0, [], .tuple #[]⟩,
  ⟨.invalid, 0, 0, [], .tuple #[]⟩,
  ⟨.int .u8, 1, 1, [.int .u8 0], .int .u8 0⟩,
  ⟨.int .u8, 1, 1, [.int .u8 0], .int .u8 0⟩,
  ⟨.func #[94, 94] #[4] false, 1, 8, [.nilFunc], .nilFunc⟩,
  ⟨.pointer 5, 1, 8, [.pointer none], .pointer none⟩,
  ⟨.int .i32, 1, 4, [.int .i32 0], .int .i32 0⟩,
  ⟨.int .i32, 1, 4, [.int .i32 0], .int .i32 0⟩,
  ⟨.invalid, 0, 0, [], .tuple #[]⟩,
  ⟨.invalid, 0, 0, [], .tuple #[]⟩,
  ⟨.invalid, 0, 0, [], .tuple #[]⟩]
set_option maxRecDepth 100000 in
theorem tab_ok : TabOk Tryd.prog 0 tab := by
  refine ⟨.inl rfl, ?_⟩
  refine ⟨.inr ⟨by kernel_rfl, by kernel_rfl, by kernel_rfl, trivial⟩, ?_⟩
  refine ⟨.inr ⟨by kernel_rfl, by kernel_rfl, by kernel_rfl, trivial⟩, ?_⟩
  refine ⟨.inr ⟨by kernel_rfl, by kernel_rfl, by kernel_rfl, trivial⟩, ?_⟩
  refine ⟨.inr ⟨by kernel_rfl, by kernel_rfl, by kernel_rfl, trivial⟩, ?_⟩
  refine ⟨.inr ⟨by kernel_rfl, by kernel_rfl, by kernel_rfl, trivial⟩, ?_⟩
  refine ⟨.inr ⟨by kernel_rfl, by kernel_rfl, by kernel_rfl, trivial⟩, ?_⟩
  refine ⟨.inl rfl, ?_⟩
  refine ⟨.inl rfl, ?_⟩
  refine ⟨.inr ⟨by kernel_rfl, by kernel_rfl, by kernel_rfl, trivial⟩, ?_⟩
  refine ⟨.inr ⟨by kernel_rfl, by kernel_rfl, by kernel_rfl, trivial⟩, ?_⟩
  refine ⟨.inr ⟨by kernel_rfl, by kernel_rfl, by kernel_rfl, trivial⟩, ?_⟩
  refine ⟨.inr ⟨by kernel_rfl, by kernel_rfl, by kernel_rfl, trivial⟩, ?_⟩
  refine ⟨.inl rfl, ?_⟩
  refine ⟨.inl rfl, ?_⟩
  refine ⟨.inr ⟨by kernel_rfl, by kernel_rfl, by kernel_rfl, trivial⟩, ?_⟩
  refine ⟨.inr ⟨by kernel_rfl, by kernel_rfl, by kernel_rfl, trivial⟩, ?_⟩
  refine ⟨.inr ⟨by kernel_rfl, by kernel_rfl, by kernel_rfl, trivial⟩, ?_⟩
  refine ⟨.inl rfl, ?_⟩
  refine ⟨.inl rfl, ?_⟩
  refine ⟨.inl rfl, ?_⟩
  refine ⟨.inr ⟨by kernel_rfl, by kernel_rfl, by kernel_rfl, trivial⟩, ?_⟩
  refine ⟨.inr ⟨by kernel_rfl, by kernel_rfl, by kernel_rfl, trivial⟩, ?_⟩
  refine ⟨.inr ⟨by kernel_rfl, by kernel_rfl, by kernel_rfl, trivial⟩, ?_⟩
  refine ⟨.inr ⟨by kernel_rfl, by kernel_rfl, by kernel_rfl, trivial⟩, ?_⟩
  refine ⟨.inr ⟨by kernel_rfl, by kernel_rfl, by kernel_rfl, by kernel_rfl, by kernel_rfl, by kernel_rfl⟩, ?_⟩
  refine ⟨.inr ⟨by kernel_rfl, by kernel_rfl, by kernel_rfl, by kernel_rfl, by kernel_rfl, by kernel_rfl⟩, ?_⟩
  refine ⟨.inr ⟨by kernel_rfl, by kernel_rfl, by kernel_rfl, trivial⟩, ?_⟩
  refine ⟨.inr ⟨by kernel_rfl, by kernel_rfl, by kernel_rfl, trivial⟩, ?_⟩
  refine ⟨.inr ⟨by kernel_rfl, by kernel_rfl, by kernel_rfl, trivial⟩, ?_⟩
  refine ⟨.inr ⟨by kernel_rfl, by kernel_rfl, by kernel_rfl, trivial⟩, ?_⟩
  refine ⟨.inr ⟨by kernel_rfl, by kernel_rfl, by kernel_rfl, trivial⟩, ?_⟩
  refine ⟨.inr ⟨by kernel_rfl, by kernel_rfl, by kernel_rfl, trivial⟩, ?_⟩
  refine ⟨.inr ⟨by kernel_rfl, by kernel_rfl, by kernel_rfl, trivial⟩, ?_⟩
  refine ⟨.inr ⟨by kernel_rfl, by kernel_rfl, by kernel_rfl, trivial⟩, ?_⟩
  refine ⟨.inr ⟨by kernel_rfl, by kernel_rfl, by kernel_rfl, trivial⟩, ?_⟩
  refine ⟨.inr ⟨by kernel_rfl, by kernel_rfl, by kernel_rfl, trivial⟩, ?_⟩
  refine ⟨.inr ⟨by kernel_rfl, by kernel_rfl, by kernel_rfl, trivial⟩, ?_⟩
  refine ⟨.inr ⟨by kernel_rfl, by kernel_rfl, by kernel_rfl, trivial⟩, ?_⟩
  refine ⟨.inr ⟨by kernel_rfl, by kernel_rfl, by kernel_rfl, trivial⟩, ?_⟩
  refine ⟨.inr ⟨by kernel_rfl, by kernel_rfl, by kernel_rfl, trivial⟩, ?_⟩
  refine ⟨.inr ⟨by kernel_rfl, by kernel_rfl, by kernel_rfl, trivial⟩, ?_⟩
  refine ⟨.inr ⟨by kernel_rfl, by kernel_rfl, by kernel_rfl, trivial⟩, ?_⟩
  refine ⟨.inr ⟨by kernel_rfl, by kernel_rfl, by kernel_rfl, trivial⟩, ?_⟩
  refine ⟨.inr ⟨by kernel_rfl, by kernel_rfl, by kernel_rfl, trivial⟩, ?_⟩
  refine ⟨.inr ⟨by kernel_rfl, by kernel_rfl, by kernel_rfl, trivial⟩, ?_⟩
  refine ⟨.inr ⟨by kernel_rfl, by kernel_rfl, by kernel_rfl, trivial⟩, ?_⟩
  refine ⟨.inr ⟨by kernel_rfl, by kernel_rfl, by kernel_rfl, trivial⟩, ?_⟩
  refine ⟨.inr ⟨by kernel_rfl, by kernel_rfl, by kernel_rfl, trivial⟩, ?_⟩
  refine ⟨.inr ⟨by kernel_rfl, by kernel_rfl, by kernel_rfl, trivial⟩, ?_⟩
  refine ⟨.inr ⟨by kernel_rfl, by kernel_rfl, by kernel_rfl, trivial⟩, ?_⟩
  refine ⟨.inr ⟨by kernel_rfl, by kernel_rfl, by kernel_rfl, trivial⟩, ?_⟩
  refine ⟨.inr ⟨by kernel_rfl, by kernel_rfl, by kernel_rfl, trivial⟩, ?_⟩
  refine ⟨.inr ⟨by kernel_rfl, by kernel_rfl, by kernel_rfl, trivial⟩, ?_⟩
  refine ⟨.inr ⟨by kernel_rfl, by kernel_rfl, by kernel_rfl, trivial⟩, ?_⟩
  refine ⟨.inr ⟨by kernel_rfl, by kernel_rfl, by kernel_rfl, by kernel_rfl, by kernel_rfl, by kernel_rfl⟩, ?_⟩
  refine ⟨.inr ⟨by kernel_rfl, by kernel_rfl, by kernel_rfl, by kernel_rfl, by kernel_rfl, by kernel_rfl⟩, ?_⟩
  refine ⟨.inr ⟨by kernel_rfl, by kernel_rfl, by kernel_rfl, trivial⟩, ?_⟩
  refine ⟨.inl rfl, ?_⟩
  refine ⟨.inr ⟨by kernel_rfl, by kernel_rfl, by kernel_rfl, trivial⟩, ?_⟩
  refine ⟨.inr ⟨by kernel_rfl, by kernel_rfl, by kernel_rfl, trivial⟩, ?_⟩
  refine ⟨.inr ⟨by kernel_rfl, by kernel_rfl, by kernel_rfl, trivial⟩, ?_⟩
  refine ⟨.inr ⟨by kernel_rfl, by kernel_rfl, by kernel_rfl, trivial⟩, ?_⟩
  refine ⟨.inr ⟨by kernel_rfl, by kernel_rfl, by kernel_rfl, trivial⟩, ?_⟩
  refine ⟨.inr ⟨by kernel_rfl, by kernel_rfl, by kernel_rfl, trivial⟩, ?_⟩
  refine ⟨.inl rfl, ?_⟩
  refine ⟨.inr ⟨by kernel_rfl, by kernel_rfl, by kernel_rfl, trivial⟩, ?_⟩
  refine ⟨.inr ⟨by kernel_rfl, by kernel_rfl, by kernel_rfl, trivial⟩, ?_⟩
  refine ⟨.inr ⟨by kernel_rfl, by kernel_rfl, by kernel_rfl, by kernel_rfl, by kernel_rfl, by kernel_rfl⟩, ?_⟩
  refine ⟨.inr ⟨by kernel_rfl, by kernel_rfl, by kernel_rfl, by kernel_rfl, by kernel_rfl, by kernel_rfl⟩, ?_⟩
  refine ⟨.inr ⟨by kernel_rfl, by kernel_rfl, by kernel_rfl, trivial⟩, ?_⟩
  refine ⟨.inr ⟨by kernel_rfl, by kernel_rfl, by kernel_rfl, trivial⟩, ?_⟩
  refine ⟨.inr ⟨by kernel_rfl, by kernel_rfl, by kernel_rfl, trivial⟩, ?_⟩
  refine ⟨.inl rfl, ?_⟩
  refine ⟨.inr ⟨by kernel_rfl, by kernel_rfl, by kernel_rfl, trivial⟩, ?_⟩
  refine ⟨.inr ⟨by kernel_rfl, by kernel_rfl, by kernel_rfl, trivial⟩, ?_⟩
  refine ⟨.inr ⟨by kernel_rfl, by kernel_rfl, by kernel_rfl, trivial⟩, ?_⟩
  refine ⟨.inr ⟨by kernel_rfl, by kernel_rfl, by kernel_rfl, trivial⟩, ?_⟩
  refine ⟨.inr ⟨by kernel_rfl, by kernel_rfl, by kernel_rfl, trivial⟩, ?_⟩
  refine ⟨.inl rfl, ?_⟩
  refine ⟨.inr ⟨by kernel_rfl, by kernel_rfl, by kernel_rfl, trivial⟩, ?_⟩
  refine ⟨.inl rfl, ?_⟩
  refine ⟨.inl rfl, ?_⟩
  refine ⟨.inr ⟨by kernel_rfl, by kernel_rfl, by kernel_rfl, trivial⟩, ?_⟩
  refine ⟨.inl rfl, ?_⟩
  refine ⟨.inl rfl, ?_⟩
  refine ⟨.inr ⟨by kernel_rfl, by kernel_rfl, by kernel_rfl, trivial⟩, ?_⟩
  refine ⟨.inr ⟨by kernel_rfl, by kernel_rfl, by kernel_rfl, trivial⟩, ?_⟩
  refine ⟨.inr ⟨by kernel_rfl, by kernel_rfl, by kernel_rfl, trivial⟩, ?_⟩
  refine ⟨.inr ⟨by kernel_rfl, by kernel_rfl, by kernel_rfl, trivial⟩, ?_⟩
  refine ⟨.inr ⟨by kernel_rfl, by kernel_rfl, by kernel_rfl, trivial⟩, ?_⟩
  refine ⟨.inr ⟨by kernel_rfl, by kernel_rfl, by kernel_rfl, trivial⟩, ?_⟩
  refine ⟨.inl rfl, ?_⟩
  refine ⟨.inl rfl, ?_⟩
  refine ⟨.inl rfl, ?_⟩
  exact trivial
end Go.Proofs.YtdenafhfngnlfaaDoor.Aw
