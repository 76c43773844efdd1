/- The layout of the program's types. -/
import Derived.Test.YtofjmhigfihhbaaDoorAwA
import Derived.Test.YtofjmhigfihhbaaDoorProg
import Derived.KernelRfl
namespace Go.Proofs.YtofjmhigfihhbaaDoor.Aw
open Go
def tab : Tab := [
  ⟨.invalid, 0, 0, [], .tuple #[]⟩,
  ⟨.func #[] #[] false, 1, 8, [.nilFunc], .nilFunc⟩,
  ⟨.int .i64, 1, 8, [.int .i64 0], .int .i64 0⟩,
  ⟨.int .i64, 1, 8, [.int .i64 0], .int .i64 0⟩,
  ⟨.bool, 1, 1, [.bool false], .bool false⟩,
  ⟨.int .u8, 1, 1, [.int .u8 0], .int .u8 0⟩,
  ⟨.int .u8, 1, 1, [.int .u8 0], .int .u8 0⟩,
  ⟨.invalid, 0, 0, [], .tuple #[]⟩,
  ⟨.invalid, 0, 0, [], .tuple #[]⟩,
  ⟨.string, 1, 16, [.string ⟨#[]⟩], .string ⟨#[]⟩⟩,
  ⟨.string, 1, 16, [.string ⟨#[]⟩], .string ⟨#[]⟩⟩,
  ⟨.string, 1, 16, [.string ⟨#[]⟩], .string ⟨#[]⟩⟩,
  ⟨.int .u64, 1, 8, [.int .u64 0], .int .u64 0⟩,
  ⟨.invalid, 0, 0, [], .tuple #[]⟩,
  ⟨.invalid, 0, 0, [], .tuple #[]⟩,
  ⟨.pointer 99, 1, 8, [.pointer none], .pointer none⟩,
  ⟨.pointer 102, 1, 8, [.pointer none], .pointer none⟩,
  ⟨.pointer 110, 1, 8, [.pointer none], .pointer none⟩,
  ⟨.invalid, 0, 0, [], .tuple #[]⟩,
  ⟨.invalid, 0, 0, [], .tuple #[]⟩,
  ⟨.invalid, 0, 0, [], .tuple #[]⟩,
  ⟨.int .i32, 1, 4, [.int .i32 0], .int .i32 0⟩,
  ⟨.slice 25, 1, 24, [.slice none 0 0], .slice none 0 0⟩,
  ⟨.func #[] #[4] false, 1, 8, [.nilFunc], .nilFunc⟩,
  ⟨.struct #[⟨"Kind", 3, 0, false, "", "", 0⟩, ⟨"Text", 9, 1, false, "", "", 8⟩, ⟨"N", 3, 2, false, "", "", 24⟩, ⟨"Whole", 4, 3, false, "", "", 32⟩, ⟨"C", 3, 4, false, "", "", 40⟩], 5, 48, [.int .i64 0, .string ⟨#[]⟩, .int .i64 0, .bool false, .int .i64 0], .agg #[.int .i64 0, .string ⟨#[]⟩, .int .i64 0, .bool false, .int .i64 0]⟩,
  ⟨.struct #[⟨"Kind", 3, 0, false, "", "", 0⟩, ⟨"Text", 9, 1, false, "", "", 8⟩, ⟨"N", 3, 2, false, "", "", 24⟩, ⟨"Whole", 4, 3, false, "", "", 32⟩, ⟨"C", 3, 4, false, "", "", 40⟩], 5, 48, [.int .i64 0, .string ⟨#[]⟩, .int .i64 0, .bool false, .int .i64 0], .agg #[.int .i64 0, .string ⟨#[]⟩, .int .i64 0, .bool false, .int .i64 0]⟩,
  ⟨.struct #[⟨"Kind", 3, 0, false, "", "", 0⟩, ⟨"N", 3, 1, false, "", "", 8⟩], 2, 16, [.int .i64 0, .int .i64 0], .agg #[.int .i64 0, .int .i64 0]⟩,
  ⟨.struct #[⟨"Kind", 3, 0, false, "", "", 0⟩, ⟨"N", 3, 1, false, "", "", 8⟩], 2, 16, [.int .i64 0, .int .i64 0], .agg #[.int .i64 0, .int .i64 0]⟩,
  ⟨.invalid, 0, 0, [], .tuple #[]⟩,
  ⟨.func #[3, 22] #[27, 4] false, 1, 8, [.nilFunc], .nilFunc⟩,
  ⟨.func #[3, 22] #[4] false, 1, 8, [.nilFunc], .nilFunc⟩,
  ⟨.slice 4, 1, 24, [.slice none 0 0], .slice none 0 0⟩,
  ⟨.slice 9, 1, 24, [.slice none 0 0], .slice none 0 0⟩,
  ⟨.slice 5, 1, 24, [.slice none 0 0], .slice none 0 0⟩,
  ⟨.func #[3, 3, 31] #[4] false, 1, 8, [.nilFunc], .nilFunc⟩,
  ⟨.func #[9] #[9] false, 1, 8, [.nilFunc], .nilFunc⟩,
  ⟨.func #[3, 3, 9] #[4] false, 1, 8, [.nilFunc], .nilFunc⟩,
  ⟨.slice 3, 1, 24, [.slice none 0 0], .slice none 0 0⟩,
  ⟨.func #[3] #[4] false, 1, 8, [.nilFunc], .nilFunc⟩,
  ⟨.slice 41, 1, 24, [.slice none 0 0], .slice none 0 0⟩,
  ⟨.struct #[⟨"Name", 9, 0, false, "", "", 0⟩, ⟨"Value", 22, 1, false, "", "", 16⟩, ⟨"Important", 4, 2, false, "", "", 40⟩], 3, 48, [.string ⟨#[]⟩, .slice none 0 0, .bool false], .agg #[.string ⟨#[]⟩, .slice none 0 0, .bool false]⟩,
  ⟨.struct #[⟨"Name", 9, 0, false, "", "", 0⟩, ⟨"Value", 22, 1, false, "", "", 16⟩, ⟨"Important", 4, 2, false, "", "", 40⟩], 3, 48, [.string ⟨#[]⟩, .slice none 0 0, .bool false], .agg #[.string ⟨#[]⟩, .slice none 0 0, .bool false]⟩,
  ⟨.func #[43, 43] #[4] false, 1, 8, [.nilFunc], .nilFunc⟩,
  ⟨.slice 49, 1, 24, [.slice none 0 0], .slice none 0 0⟩,
  ⟨.func #[39] #[43] false, 1, 8, [.nilFunc], .nilFunc⟩,
  ⟨.func #[39] #[4] false, 1, 8, [.nilFunc], .nilFunc⟩,
  ⟨.invalid, 0, 0, [], .tuple #[]⟩,
  ⟨.func #[9] #[3, 4] false, 1, 8, [.nilFunc], .nilFunc⟩,
  ⟨.struct #[⟨"Prop", 3, 0, false, "", "", 0⟩, ⟨"Value", 27, 1, false, "", "", 8⟩, ⟨"Important", 4, 3, false, "", "", 24⟩], 4, 32, [.int .i64 0, .int .i64 0, .int .i64 0, .bool false], .agg #[.int .i64 0, .int .i64 0, .int .i64 0, .bool false]⟩,
  ⟨.struct #[⟨"Prop", 3, 0, false, "", "", 0⟩, ⟨"Value", 27, 1, false, "", "", 8⟩, ⟨"Important", 4, 3, false, "", "", 24⟩], 4, 32, [.int .i64 0, .int .i64 0, .int .i64 0, .bool false], .agg #[.int .i64 0, .int .i64 0, .int .i64 0, .bool false]⟩,
  ⟨.func #[3, 9] #[27, 4] false, 1, 8, [.nilFunc], .nilFunc⟩,
  ⟨.func #[9] #[27, 4] false, 1, 8, [.nilFunc], .nilFunc⟩,
  ⟨.func #[3, 25] #[27, 4] false, 1, 8, [.nilFunc], .nilFunc⟩,
  ⟨.func #[25] #[27, 4] false, 1, 8, [.nilFunc], .nilFunc⟩,
  ⟨.func #[9, 32] #[3, 4] false, 1, 8, [.nilFunc], .nilFunc⟩,
  ⟨.func #[25, 32] #[27, 4] false, 1, 8, [.nilFunc], .nilFunc⟩,
  ⟨.array 8 9, 8, 128, [.string ⟨#[]⟩, .string ⟨#[]⟩, .string ⟨#[]⟩, .string ⟨#[]⟩, .string ⟨#[]⟩, .string ⟨#[]⟩, .string ⟨#[]⟩, .string ⟨#[]⟩], .agg #[.string ⟨#[]⟩, .string ⟨#[]⟩, .string ⟨#[]⟩, .string ⟨#[]⟩, .string ⟨#[]⟩, .string ⟨#[]⟩, .string ⟨#[]⟩, .string ⟨#[]⟩]⟩,
  ⟨.func #[] #[56] false, 1, 8, [.nilFunc], .nilFunc⟩,
  ⟨.map 9 27, 1, 8, [.map none], .map none⟩,
  ⟨.func #[3] #[58] false, 1, 8, [.nilFunc], .nilFunc⟩,
  ⟨.int .u64, 1, 8, [.int .u64 0], .int .u64 0⟩,
  ⟨.invalid, 0, 0, [], .tuple #[]⟩,
  ⟨.invalid, 0, 0, [], .tuple #[]⟩,
  ⟨.invalid, 0, 0, [], .tuple #[]⟩,
  ⟨.func #[9, 3, 3] #[60, 62] false, 1, 8, [.nilFunc], .nilFunc⟩,
  ⟨.func #[3] #[3] false, 1, 8, [.nilFunc], .nilFunc⟩,
  ⟨.func #[3] #[9] false, 1, 8, [.nilFunc], .nilFunc⟩,
  ⟨.func #[3] #[27] false, 1, 8, [.nilFunc], .nilFunc⟩,
  ⟨.func #[9, 9, 3, 3, 62] #[62] false, 1, 8, [.nilFunc], .nilFunc⟩,
  ⟨.int .i64, 1, 8, [.int .i64 0], .int .i64 0⟩,
  ⟨.func #[5] #[5] false, 1, 8, [.nilFunc], .nilFunc⟩,
  ⟨.int .u64, 1, 8, [.int .u64 0], .int .u64 0⟩,
  ⟨.func #[9] #[4] false, 1, 8, [.nilFunc], .nilFunc⟩,
  ⟨.pointer 77, 1, 8, [.pointer none], .pointer none⟩,
  ⟨.func #[9, 9] #[73] false, 1, 8, [.nilFunc], .nilFunc⟩,
  ⟨.func #[9, 9, 3] #[73] false, 1, 8, [.nilFunc], .nilFunc⟩,
  ⟨.invalid, 0, 0, [], .tuple #[]⟩,
  ⟨.invalid, 0, 0, [], .tuple #[]⟩,
  ⟨.func #[9] #[62] false, 1, 8, [.nilFunc], .nilFunc⟩,
  ⟨.pointer 5, 1, 8, [.pointer none], .pointer none⟩,
  ⟨.pointer 82, 1, 8, [.pointer none], .pointer none⟩,
  ⟨.struct #[⟨"s", 9, 0, false, "", "errors", 0⟩], 1, 16, [.string ⟨#[]⟩], .agg #[.string ⟨#[]⟩]⟩,
  ⟨.struct #[⟨"s", 9, 0, false, "", "errors", 0⟩], 1, 16, [.string ⟨#[]⟩], .agg #[.string ⟨#[]⟩]⟩,
  ⟨.func #[2, 3] #[9] false, 1, 8, [.nilFunc], .nilFunc⟩,
  ⟨.array 24 5, 24, 24, [.int .u8 0, .int .u8 0, .int .u8 0, .int .u8 0, .int .u8 0, .int .u8 0, .int .u8 0, .int .u8 0, .int .u8 0, .int .u8 0, .int .u8 0, .int .u8 0, .int .u8 0, .int .u8 0, .int .u8 0, .int .u8 0, .int .u8 0, .int .u8 0, .int .u8 0, .int .u8 0, .int .u8 0, .int .u8 0, .int .u8 0, .int .u8 0], .agg #[.int .u8 0, .int .u8 0, .int .u8 0, .int .u8 0, .int .u8 0, .int .u8 0, .int .u8 0, .int .u8 0, .int .u8 0, .int .u8 0, .int .u8 0, .int .u8 0, .int .u8 0, .int .u8 0, .int .u8 0, .int .u8 0, .int .u8 0, .int .u8 0, .int .u8 0, .int .u8 0, .int .u8 0, .int .u8 0, .int .u8 0, .int .u8 0]⟩,
  ⟨.func #[60] #[3] false, 1, 8, [.nilFunc], .nilFunc⟩,
  ⟨.func #[33, 60] #[] false, 1, 8, [.nilFunc], .nilFunc⟩,
  ⟨.invalid, 0, 0, [], .tuple #[]⟩,
  ⟨.func #[33, 60, 3, 4, 4] #[33, 9] false, 1, 8, [.nilFunc], .nilFunc⟩,
  ⟨.func #[4] #[3] false, 1, 8, [.nilFunc], .nilFunc⟩,
  ⟨.array 20 60, 20, 160, [.int .u64 0, .int .u64 0, .int .u64 0, .int .u64 0, .int .u64 0, .int .u64 0, .int .u64 0, .int .u64 0, .int .u64 0, .int .u64 0, .int .u64 0, .int .u64 0, .int .u64 0, .int .u64 0, .int .u64 0, .int .u64 0, .int .u64 0, .int .u64 0, .int .u64 0, .int .u64 0], .agg #[.int .u64 0, .int .u64 0, .int .u64 0, .int .u64 0, .int .u64 0, .int .u64 0, .int .u64 0, .int .u64 0, .int .u64 0, .int .u64 0, .int .u64 0, .int .u64 0, .int .u64 0, .int .u64 0, .int .u64 0, .int .u64 0, .int .u64 0, .int .u64 0, .int .u64 0, .int .u64 0]⟩,
  ⟨.int .u32, 1, 4, [.int .u32 0], .int .u32 0⟩,
  ⟨.array 65 5, 65, 65, [.int .u8 0, .int .u8 0, .int .u8 0, .int .u8 0, .int .u8 0, .int .u8 0, .int .u8 0, .int .u8 0, .int .u8 0, .int .u8 0, .int .u8 0, .int .u8 0, .int .u8 0, .int .u8 0, .int .u8 0, .int .u8 0, .int .u8 0, .int .u8 0, .int .u8 0, .int .u8 0, .int .u8 0, .int .u8 0, .int .u8 0, .int .u8 0, .int .u8 0, .int .u8 0, .int .u8 0, .int .u8 0, .int .u8 0, .int .u8 0, .int .u8 0, .int .u8 0, .int .u8 0, .int .u8 0, .int .u8 0, .int .u8 0, .int .u8 0, .int .u8 0, .int .u8 0, .int .u8 0, .int .u8 0, .int .u8 0, .int .u8 0, .int .u8 0, .int .u8 0, .int .u8 0, .int .u8 0, .int .u8 0, .int .u8 0, .int .u8 0, .int .u8 0, .int .u8 0, .int .u8 0, .int .u8 0, .int .u8 0, .int .u8 0, .int .u8 0, .int .u8 0, .int .u8 0, .int .u8 0, .int .u8 0, .int .u8 0, .int .u8 0, .int .u8 0, .int .u8 0], .agg #[.int .u8 0, .int .u8 0, .int .u8 0, .int .u8 0, .int .u8 0, .int .u8 0, .int .u8 0, .int .u8 0, .int .u8 0, .int .u8 0, .int .u8 0, .int .u8 0, .int .u8 0, .int .u8 0, .int .u8 0, .int .u8 0, .int .u8 0, .int .u8 0, .int .u8 0, .int .u8 0, .int .u8 0, .int .u8 0, .int .u8 0, .int .u8 0, .int .u8 0, .int .u8 0, .int .u8 0, .int .u8 0, .int .u8 0, .int .u8 0, .int .u8 0, .int .u8 0, .int .u8 0, .int .u8 0, .int .u8 0, .int .u8 0, .int .u8 0, .int .u8 0, .int .u8 0, .int .u8 0, .int .u8 0, .int .u8 0, .int .u8 0, .int .u8 0, .int .u8 0, .int .u8 0, .int .u8 0, .int .u8 0, .int .u8 0, .int .u8 0, .int .u8 0, .int .u8 0, .int .u8 0, .int .u8 0, .int .u8 0, .int .u8 0, .int .u8 0, .int .u8 0, .int .u8 0, .int .u8 0, .int .u8 0, .int .u8 0, .int .u8 0, .int .u8 0, .int .u8 0]⟩,
  ⟨.func #[71] #[3] false, 1, 8, [.nilFunc], .nilFunc⟩,
  ⟨.func #[91] #[3] false, 1, 8, [.nilFunc], .nilFunc⟩,
  ⟨.array 32 5, 32, 32, [.int .u8 0, .int .u8 0, .int .u8 0, .int .u8 0, .int .u8 0, .int .u8 0, .int .u8 0, .int .u8 0, .int .u8 0, .int .u8 0, .int .u8 0, .int .u8 0, .int .u8 0, .int .u8 0, .int .u8 0, .int .u8 0, .int .u8 0, .int .u8 0, .int .u8 0, .int .u8 0, .int .u8 0, .int .u8 0, .int .u8 0, .int .u8 0, .int .u8 0, .int .u8 0, .int .u8 0, .int .u8 0, .int .u8 0, .int .u8 0, .int .u8 0, .int .u8 0], .agg #[.int .u8 0, .int .u8 0, .int .u8 0, .int .u8 0, .int .u8 0, .int .u8 0, .int .u8 0, .int .u8 0, .int .u8 0, .int .u8 0, .int .u8 0, .int .u8 0, .int .u8 0, .int .u8 0, .int .u8 0, .int .u8 0, .int .u8 0, .int .u8 0, .int .u8 0, .int .u8 0, .int .u8 0, .int .u8 0, .int .u8 0, .int .u8 0, .int .u8 0, .int .u8 0, .int .u8 0, .int .u8 0, .int .u8 0, .int .u8 0, .int .u8 0, .int .u8 0]⟩,
  ⟨.array 64 5, 64, 64, [.int .u8 0, .int .u8 0, .int .u8 0, .int .u8 0, .int .u8 0, .int .u8 0, .int .u8 0, .int .u8 0, .int .u8 0, .int .u8 0, .int .u8 0, .int .u8 0, .int .u8 0, .int .u8 0, .int .u8 0, .int .u8 0, .int .u8 0, .int .u8 0, .int .u8 0, .int .u8 0, .int .u8 0, .int .u8 0, .int .u8 0, .int .u8 0, .int .u8 0, .int .u8 0, .int .u8 0, .int .u8 0, .int .u8 0, .int .u8 0, .int .u8 0, .int .u8 0, .int .u8 0, .int .u8 0, .int .u8 0, .int .u8 0, .int .u8 0, .int .u8 0, .int .u8 0, .int .u8 0, .int .u8 0, .int .u8 0, .int .u8 0, .int .u8 0, .int .u8 0, .int .u8 0, .int .u8 0, .int .u8 0, .int .u8 0, .int .u8 0, .int .u8 0, .int .u8 0, .int .u8 0, .int .u8 0, .int .u8 0, .int .u8 0, .int .u8 0, .int .u8 0, .int .u8 0, .int .u8 0, .int .u8 0, .int .u8 0, .int .u8 0, .int .u8 0], .agg #[.int .u8 0, .int .u8 0, .int .u8 0, .int .u8 0, .int .u8 0, .int .u8 0, .int .u8 0, .int .u8 0, .int .u8 0, .int .u8 0, .int .u8 0, .int .u8 0, .int .u8 0, .int .u8 0, .int .u8 0, .int .u8 0, .int .u8 0, .int .u8 0, .int .u8 0, .int .u8 0, .int .u8 0, .int .u8 0, .int .u8 0, .int .u8 0, .int .u8 0, .int .u8 0, .int .u8 0, .int .u8 0, .int .u8 0, .int .u8 0, .int .u8 0, .int .u8 0, .int .u8 0, .int .u8 0, .int .u8 0, .int .u8 0, .int .u8 0, .int .u8 0, .int .u8 0, .int .u8 0, .int .u8 0, .int .u8 0, .int .u8 0, .int .u8 0, .int .u8 0, .int .u8 0, .int .u8 0, .int .u8 0, .int .u8 0, .int .u8 0, .int .u8 0, .int .u8 0, .int .u8 0, .int .u8 0, .int .u8 0, .int .u8 0, .int .u8 0, .int .u8 0, .int .u8 0, .int .u8 0, .int .u8 0, .int .u8 0, .int .u8 0, .int .u8 0]⟩,
  ⟨.func #[] #[9] false, 1, 8, [.nilFunc], .nilFunc⟩,
  ⟨.invalid, 0, 0, [], .tuple #[]⟩,
  ⟨.invalid, 0, 0, [], .tuple #[]⟩,
  ⟨.array 0 16, 0, 0, [], .agg #[]⟩,
  ⟨.invalid, 0, 0, [], .tuple #[]⟩,
  ⟨.invalid, 0, 0, [], .tuple #[]⟩,
  ⟨.func #[] #[3] false, 1, 8, [.nilFunc], .nilFunc⟩,
  ⟨.int .u8, 1, 1, [.int .u8 0], .int .u8 0⟩,
  ⟨.int .u8, 1, 1, [.int .u8 0], .int .u8 0⟩,
  ⟨.func #[111, 111] #[4] false, 1, 8, [.nilFunc], .nilFunc⟩,
  ⟨.int .i32, 1, 4, [.int .i32 0], .int .i32 0⟩,
  ⟨.int .i32, 1, 4, [.int .i32 0], .int .i32 0⟩,
  ⟨.invalid, 0, 0, [], .tuple #[]⟩,
  ⟨.invalid, 0, 0, [], .tuple #[]⟩,
  ⟨.invalid, 0, 0, [], .tuple #[]⟩]
set_option maxRecDepth 100000 in
theorem tab_ok : TabOk Tryd.prog 0 tab := by
  refine ⟨.inl rfl, ?_⟩
  refine ⟨.inr ⟨by kernel_rfl, by kernel_rfl, by kernel_rfl, trivial⟩, ?_⟩
  refine ⟨.inr ⟨by kernel_rfl, by kernel_rfl, by kernel_rfl, trivial⟩, ?_⟩
  refine ⟨.inr ⟨by kernel_rfl, by kernel_rfl, by kernel_rfl, trivial⟩, ?_⟩
  refine ⟨.inr ⟨by kernel_rfl, by kernel_rfl, by kernel_rfl, trivial⟩, ?_⟩
  refine ⟨.inr ⟨by kernel_rfl, by kernel_rfl, by kernel_rfl, trivial⟩, ?_⟩
  refine ⟨.inr ⟨by kernel_rfl, by kernel_rfl, by kernel_rfl, trivial⟩, ?_⟩
  refine ⟨.inl rfl, ?_⟩
  refine ⟨.inl rfl, ?_⟩
  refine ⟨.inr ⟨by kernel_rfl, by kernel_rfl, by kernel_rfl, trivial⟩, ?_⟩
  refine ⟨.inr ⟨by kernel_rfl, by kernel_rfl, by kernel_rfl, trivial⟩, ?_⟩
  refine ⟨.inr ⟨by kernel_rfl, by kernel_rfl, by kernel_rfl, trivial⟩, ?_⟩
  refine ⟨.inr ⟨by kernel_rfl, by kernel_rfl, by kernel_rfl, trivial⟩, ?_⟩
  refine ⟨.inl rfl, ?_⟩
  refine ⟨.inl rfl, ?_⟩
  refine ⟨.inr ⟨by kernel_rfl, by kernel_rfl, by kernel_rfl, trivial⟩, ?_⟩
  refine ⟨.inr ⟨by kernel_rfl, by kernel_rfl, by kernel_rfl, trivial⟩, ?_⟩
  refine ⟨.inr ⟨by kernel_rfl, by kernel_rfl, by kernel_rfl, trivial⟩, ?_⟩
  refine ⟨.inl rfl, ?_⟩
  refine ⟨.inl rfl, ?_⟩
  refine ⟨.inl rfl, ?_⟩
  refine ⟨.inr ⟨by kernel_rfl, by kernel_rfl, by kernel_rfl, trivial⟩, ?_⟩
  refine ⟨.inr ⟨by kernel_rfl, by kernel_rfl, by kernel_rfl, trivial⟩, ?_⟩
  refine ⟨.inr ⟨by kernel_rfl, by kernel_rfl, by kernel_rfl, trivial⟩, ?_⟩
  refine ⟨.inr ⟨by kernel_rfl, by kernel_rfl, by kernel_rfl, by kernel_rfl, by kernel_rfl, by kernel_rfl⟩, ?_⟩
  refine ⟨.inr ⟨by kernel_rfl, by kernel_rfl, by kernel_rfl, by kernel_rfl, by kernel_rfl, by kernel_rfl⟩, ?_⟩
  refine ⟨.inr ⟨by kernel_rfl, by kernel_rfl, by kernel_rfl, by kernel_rfl, by kernel_rfl, by kernel_rfl⟩, ?_⟩
  refine ⟨.inr ⟨by kernel_rfl, by kernel_rfl, by kernel_rfl, by kernel_rfl, by kernel_rfl, by kernel_rfl⟩, ?_⟩
  refine ⟨.inl rfl, ?_⟩
  refine ⟨.inr ⟨by kernel_rfl, by kernel_rfl, by kernel_rfl, trivial⟩, ?_⟩
  refine ⟨.inr ⟨by kernel_rfl, by kernel_rfl, by kernel_rfl, trivial⟩, ?_⟩
  refine ⟨.inr ⟨by kernel_rfl, by kernel_rfl, by kernel_rfl, trivial⟩, ?_⟩
  refine ⟨.inr ⟨by kernel_rfl, by kernel_rfl, by kernel_rfl, trivial⟩, ?_⟩
  refine ⟨.inr ⟨by kernel_rfl, by kernel_rfl, by kernel_rfl, trivial⟩, ?_⟩
  refine ⟨.inr ⟨by kernel_rfl, by kernel_rfl, by kernel_rfl, trivial⟩, ?_⟩
  refine ⟨.inr ⟨by kernel_rfl, by kernel_rfl, by kernel_rfl, trivial⟩, ?_⟩
  refine ⟨.inr ⟨by kernel_rfl, by kernel_rfl, by kernel_rfl, trivial⟩, ?_⟩
  refine ⟨.inr ⟨by kernel_rfl, by kernel_rfl, by kernel_rfl, trivial⟩, ?_⟩
  refine ⟨.inr ⟨by kernel_rfl, by kernel_rfl, by kernel_rfl, trivial⟩, ?_⟩
  refine ⟨.inr ⟨by kernel_rfl, by kernel_rfl, by kernel_rfl, trivial⟩, ?_⟩
  refine ⟨.inr ⟨by kernel_rfl, by kernel_rfl, by kernel_rfl, by kernel_rfl, by kernel_rfl, by kernel_rfl⟩, ?_⟩
  refine ⟨.inr ⟨by kernel_rfl, by kernel_rfl, by kernel_rfl, by kernel_rfl, by kernel_rfl, by kernel_rfl⟩, ?_⟩
  refine ⟨.inr ⟨by kernel_rfl, by kernel_rfl, by kernel_rfl, trivial⟩, ?_⟩
  refine ⟨.inr ⟨by kernel_rfl, by kernel_rfl, by kernel_rfl, trivial⟩, ?_⟩
  refine ⟨.inr ⟨by kernel_rfl, by kernel_rfl, by kernel_rfl, trivial⟩, ?_⟩
  refine ⟨.inr ⟨by kernel_rfl, by kernel_rfl, by kernel_rfl, trivial⟩, ?_⟩
  refine ⟨.inl rfl, ?_⟩
  refine ⟨.inr ⟨by kernel_rfl, by kernel_rfl, by kernel_rfl, trivial⟩, ?_⟩
  refine ⟨.inr ⟨by kernel_rfl, by kernel_rfl, by kernel_rfl, by kernel_rfl, by kernel_rfl, by kernel_rfl⟩, ?_⟩
  refine ⟨.inr ⟨by kernel_rfl, by kernel_rfl, by kernel_rfl, by kernel_rfl, by kernel_rfl, by kernel_rfl⟩, ?_⟩
  refine ⟨.inr ⟨by kernel_rfl, by kernel_rfl, by kernel_rfl, trivial⟩, ?_⟩
  refine ⟨.inr ⟨by kernel_rfl, by kernel_rfl, by kernel_rfl, trivial⟩, ?_⟩
  refine ⟨.inr ⟨by kernel_rfl, by kernel_rfl, by kernel_rfl, trivial⟩, ?_⟩
  refine ⟨.inr ⟨by kernel_rfl, by kernel_rfl, by kernel_rfl, trivial⟩, ?_⟩
  refine ⟨.inr ⟨by kernel_rfl, by kernel_rfl, by kernel_rfl, trivial⟩, ?_⟩
  refine ⟨.inr ⟨by kernel_rfl, by kernel_rfl, by kernel_rfl, trivial⟩, ?_⟩
  refine ⟨.inr ⟨by kernel_rfl, by kernel_rfl, by kernel_rfl, trivial⟩, ?_⟩
  refine ⟨.inr ⟨by kernel_rfl, by kernel_rfl, by kernel_rfl, trivial⟩, ?_⟩
  refine ⟨.inr ⟨by kernel_rfl, by kernel_rfl, by kernel_rfl, trivial⟩, ?_⟩
  refine ⟨.inr ⟨by kernel_rfl, by kernel_rfl, by kernel_rfl, trivial⟩, ?_⟩
  refine ⟨.inr ⟨by kernel_rfl, by kernel_rfl, by kernel_rfl, trivial⟩, ?_⟩
  refine ⟨.inl rfl, ?_⟩
  refine ⟨.inl rfl, ?_⟩
  refine ⟨.inl rfl, ?_⟩
  refine ⟨.inr ⟨by kernel_rfl, by kernel_rfl, by kernel_rfl, trivial⟩, ?_⟩
  refine ⟨.inr ⟨by kernel_rfl, by kernel_rfl, by kernel_rfl, trivial⟩, ?_⟩
  refine ⟨.inr ⟨by kernel_rfl, by kernel_rfl, by kernel_rfl, trivial⟩, ?_⟩
  refine ⟨.inr ⟨by kernel_rfl, by kernel_rfl, by kernel_rfl, trivial⟩, ?_⟩
  refine ⟨.inr ⟨by kernel_rfl, by kernel_rfl, by kernel_rfl, trivial⟩, ?_⟩
  refine ⟨.inr ⟨by kernel_rfl, by kernel_rfl, by kernel_rfl, trivial⟩, ?_⟩
  refine ⟨.inr ⟨by kernel_rfl, by kernel_rfl, by kernel_rfl, trivial⟩, ?_⟩
  refine ⟨.inr ⟨by kernel_rfl, by kernel_rfl, by kernel_rfl, trivial⟩, ?_⟩
  refine ⟨.inr ⟨by kernel_rfl, by kernel_rfl, by kernel_rfl, trivial⟩, ?_⟩
  refine ⟨.inr ⟨by kernel_rfl, by kernel_rfl, by kernel_rfl, trivial⟩, ?_⟩
  refine ⟨.inr ⟨by kernel_rfl, by kernel_rfl, by kernel_rfl, trivial⟩, ?_⟩
  refine ⟨.inr ⟨by kernel_rfl, by kernel_rfl, by kernel_rfl, trivial⟩, ?_⟩
  refine ⟨.inl rfl, ?_⟩
  refine ⟨.inl rfl, ?_⟩
  refine ⟨.inr ⟨by kernel_rfl, by kernel_rfl, by kernel_rfl, trivial⟩, ?_⟩
  refine ⟨.inr ⟨by kernel_rfl, by kernel_rfl, by kernel_rfl, trivial⟩, ?_⟩
  refine ⟨.inr ⟨by kernel_rfl, by kernel_rfl, by kernel_rfl, trivial⟩, ?_⟩
  refine ⟨.inr ⟨by kernel_rfl, by kernel_rfl, by kernel_rfl, by kernel_rfl, by kernel_rfl, by kernel_rfl⟩, ?_⟩
  refine ⟨.inr ⟨by kernel_rfl, by kernel_rfl, by kernel_rfl, by kernel_rfl, by kernel_rfl, by kernel_rfl⟩, ?_⟩
  refine ⟨.inr ⟨by kernel_rfl, by kernel_rfl, by kernel_rfl, trivial⟩, ?_⟩
  refine ⟨.inr ⟨by kernel_rfl, by kernel_rfl, by kernel_rfl, trivial⟩, ?_⟩
  refine ⟨.inr ⟨by kernel_rfl, by kernel_rfl, by kernel_rfl, trivial⟩, ?_⟩
  refine ⟨.inr ⟨by kernel_rfl, by kernel_rfl, by kernel_rfl, trivial⟩, ?_⟩
  refine ⟨.inl rfl, ?_⟩
  refine ⟨.inr ⟨by kernel_rfl, by kernel_rfl, by kernel_rfl, trivial⟩, ?_⟩
  refine ⟨.inr ⟨by kernel_rfl, by kernel_rfl, by kernel_rfl, trivial⟩, ?_⟩
  refine ⟨.inr ⟨by kernel_rfl, by kernel_rfl, by kernel_rfl, trivial⟩, ?_⟩
  refine ⟨.inr ⟨by kernel_rfl, by kernel_rfl, by kernel_rfl, trivial⟩, ?_⟩
  refine ⟨.inr ⟨by kernel_rfl, by kernel_rfl, by kernel_rfl, trivial⟩, ?_⟩
  refine ⟨.inr ⟨by kernel_rfl, by kernel_rfl, by kernel_rfl, trivial⟩, ?_⟩
  refine ⟨.inr ⟨by kernel_rfl, by kernel_rfl, by kernel_rfl, trivial⟩, ?_⟩
  refine ⟨.inr ⟨by kernel_rfl, by kernel_rfl, by kernel_rfl, trivial⟩, ?_⟩
  refine ⟨.inr ⟨by kernel_rfl, by kernel_rfl, by kernel_rfl, trivial⟩, ?_⟩
  refine ⟨.inr ⟨by kernel_rfl, by kernel_rfl, by kernel_rfl, trivial⟩, ?_⟩
  refine ⟨.inl rfl, ?_⟩
  refine ⟨.inl rfl, ?_⟩
  refine ⟨.inr ⟨by kernel_rfl, by kernel_rfl, by kernel_rfl, trivial⟩, ?_⟩
  refine ⟨.inl rfl, ?_⟩
  refine ⟨.inl rfl, ?_⟩
  refine ⟨.inr ⟨by kernel_rfl, by kernel_rfl, by kernel_rfl, trivial⟩, ?_⟩
  refine ⟨.inr ⟨by kernel_rfl, by kernel_rfl, by kernel_rfl, trivial⟩, ?_⟩
  refine ⟨.inr ⟨by kernel_rfl, by kernel_rfl, by kernel_rfl, trivial⟩, ?_⟩
  refine ⟨.inr ⟨by kernel_rfl, by kernel_rfl, by kernel_rfl, trivial⟩, ?_⟩
  refine ⟨.inr ⟨by kernel_rfl, by kernel_rfl, by kernel_rfl, trivial⟩, ?_⟩
  refine ⟨.inr ⟨by kernel_rfl, by kernel_rfl, by kernel_rfl, trivial⟩, ?_⟩
  refine ⟨.inl rfl, ?_⟩
  refine ⟨.inl rfl, ?_⟩
  refine ⟨.inl rfl, ?_⟩
  exact trivial
end Go.Proofs.YtofjmhigfihhbaaDoor.Aw
