/- The layout of the program's types. -/
import Derived.Test.YtdfiegleaknleaaAwA
import Derived.Test.YtdfiegleaknleaaProg
import Derived.KernelRfl
namespace Go.Proofs.Ytdfiegleaknleaa.Aw
open Go
def tab : Tab := [
  ⟨.invalid, 0, 0, [], .tuple #[]⟩,
  ⟨.func #[] #[] false, 1, 8, [.nilFunc], .nilFunc⟩,
  ⟨.int .i64, 1, 8, [.int .i64 0], .int .i64 0⟩,
  ⟨.int .i64, 1, 8, [.int .i64 0], .int .i64 0⟩,
  ⟨.bool, 1, 1, [.bool false], .bool false⟩,
  ⟨.int .u8, 1, 1, [.int .u8 0], .int .u8 0⟩,
  ⟨.int .u8, 1, 1, [.int .u8 0], .int .u8 0⟩,
  ⟨.invalid, 0, 0, [], .tuple #[]⟩,
  ⟨.invalid, 0, 0, [], .tuple #[]⟩,
  ⟨.string, 1, 16, [.string ⟨#[]⟩], .string ⟨#[]⟩⟩,
  ⟨.string, 1, 16, [.string ⟨#[]⟩], .string ⟨#[]⟩⟩,
  ⟨.string, 1, 16, [.string ⟨#[]⟩], .string ⟨#[]⟩⟩,
  ⟨.int .u64, 1, 8, [.int .u64 0], .int .u64 0⟩,
  ⟨.invalid, 0, 0, [], .tuple #[]⟩,
  ⟨.invalid, 0, 0, [], .tuple #[]⟩,
  ⟨.pointer 106, 1, 8, [.pointer none], .pointer none⟩,
  ⟨.pointer 109, 1, 8, [.pointer none], .pointer none⟩,
  ⟨.pointer 118, 1, 8, [.pointer none], .pointer none⟩,
  ⟨.invalid, 0, 0, [], .tuple #[]⟩,
  ⟨.invalid, 0, 0, [], .tuple #[]⟩,
  ⟨.invalid, 0, 0, [], .tuple #[]⟩,
  ⟨.int .i32, 1, 4, [.int .i32 0], .int .i32 0⟩,
  ⟨.slice 25, 1, 24, [.slice none 0 0], .slice none 0 0⟩,
  ⟨.func #[] #[4] false, 1, 8, [.nilFunc], .nilFunc⟩,
  ⟨.struct #[⟨"Kind", 3, 0, false, "", "", 0⟩, ⟨"Text", 9, 1, false, "", "", 8⟩, ⟨"N", 3, 2, false, "", "", 24⟩, ⟨"Whole", 4, 3, false, "", "", 32⟩, ⟨"C", 3, 4, false, "", "", 40⟩], 5, 48, [.int .i64 0, .string ⟨#[]⟩, .int .i64 0, .bool false, .int .i64 0], .agg #[.int .i64 0, .string ⟨#[]⟩, .int .i64 0, .bool false, .int .i64 0]⟩,
  ⟨.struct #[⟨"Kind", 3, 0, false, "", "", 0⟩, ⟨"Text", 9, 1, false, "", "", 8⟩, ⟨"N", 3, 2, false, "", "", 24⟩, ⟨"Whole", 4, 3, false, "", "", 32⟩, ⟨"C", 3, 4, false, "", "", 40⟩], 5, 48, [.int .i64 0, .string ⟨#[]⟩, .int .i64 0, .bool false, .int .i64 0], .agg #[.int .i64 0, .string ⟨#[]⟩, .int .i64 0, .bool false, .int .i64 0]⟩,
  ⟨.slice 45, 1, 24, [.slice none 0 0], .slice none 0 0⟩,
  ⟨.invalid, 0, 0, [], .tuple #[]⟩,
  ⟨.func #[22] #[26, 4] false, 1, 8, [.nilFunc], .nilFunc⟩,
  ⟨.func #[26, 26] #[4] false, 1, 8, [.nilFunc], .nilFunc⟩,
  ⟨.func #[22, 22] #[4] false, 1, 8, [.nilFunc], .nilFunc⟩,
  ⟨.func #[22] #[4] false, 1, 8, [.nilFunc], .nilFunc⟩,
  ⟨.slice 5, 1, 24, [.slice none 0 0], .slice none 0 0⟩,
  ⟨.func #[9] #[22] false, 1, 8, [.nilFunc], .nilFunc⟩,
  ⟨.func #[32] #[4] false, 1, 8, [.nilFunc], .nilFunc⟩,
  ⟨.slice 4, 1, 24, [.slice none 0 0], .slice none 0 0⟩,
  ⟨.slice 9, 1, 24, [.slice none 0 0], .slice none 0 0⟩,
  ⟨.slice 50, 1, 24, [.slice none 0 0], .slice none 0 0⟩,
  ⟨.slice 47, 1, 24, [.slice none 0 0], .slice none 0 0⟩,
  ⟨.struct #[⟨"Tag", 9, 0, false, "", "", 0⟩, ⟨"IDs", 36, 1, false, "", "", 16⟩, ⟨"Classes", 36, 2, false, "", "", 40⟩, ⟨"Attrs", 37, 3, false, "", "", 64⟩, ⟨"Pseudos", 38, 4, false, "", "", 88⟩], 5, 112, [.string ⟨#[]⟩, .slice none 0 0, .slice none 0 0, .slice none 0 0, .slice none 0 0], .agg #[.string ⟨#[]⟩, .slice none 0 0, .slice none 0 0, .slice none 0 0, .slice none 0 0]⟩,
  ⟨.struct #[⟨"Tag", 9, 0, false, "", "", 0⟩, ⟨"IDs", 36, 1, false, "", "", 16⟩, ⟨"Classes", 36, 2, false, "", "", 40⟩, ⟨"Attrs", 37, 3, false, "", "", 64⟩, ⟨"Pseudos", 38, 4, false, "", "", 88⟩], 5, 112, [.string ⟨#[]⟩, .slice none 0 0, .slice none 0 0, .slice none 0 0, .slice none 0 0], .agg #[.string ⟨#[]⟩, .slice none 0 0, .slice none 0 0, .slice none 0 0, .slice none 0 0]⟩,
  ⟨.struct #[⟨"Comb", 3, 0, false, "", "", 0⟩, ⟨"Compound", 40, 1, false, "", "", 8⟩], 6, 120, [.int .i64 0, .string ⟨#[]⟩, .slice none 0 0, .slice none 0 0, .slice none 0 0, .slice none 0 0], .agg #[.int .i64 0, .string ⟨#[]⟩, .slice none 0 0, .slice none 0 0, .slice none 0 0, .slice none 0 0]⟩,
  ⟨.struct #[⟨"Comb", 3, 0, false, "", "", 0⟩, ⟨"Compound", 40, 1, false, "", "", 8⟩], 6, 120, [.int .i64 0, .string ⟨#[]⟩, .slice none 0 0, .slice none 0 0, .slice none 0 0, .slice none 0 0], .agg #[.int .i64 0, .string ⟨#[]⟩, .slice none 0 0, .slice none 0 0, .slice none 0 0, .slice none 0 0]⟩,
  ⟨.slice 42, 1, 24, [.slice none 0 0], .slice none 0 0⟩,
  ⟨.struct #[⟨"Parts", 43, 0, false, "", "", 0⟩], 1, 24, [.slice none 0 0], .agg #[.slice none 0 0]⟩,
  ⟨.struct #[⟨"Parts", 43, 0, false, "", "", 0⟩], 1, 24, [.slice none 0 0], .agg #[.slice none 0 0]⟩,
  ⟨.struct #[⟨"Kind", 3, 0, false, "", "", 0⟩, ⟨"A", 3, 1, false, "", "", 8⟩, ⟨"B", 3, 2, false, "", "", 16⟩, ⟨"List", 26, 3, false, "", "", 24⟩], 4, 48, [.int .i64 0, .int .i64 0, .int .i64 0, .slice none 0 0], .agg #[.int .i64 0, .int .i64 0, .int .i64 0, .slice none 0 0]⟩,
  ⟨.struct #[⟨"Kind", 3, 0, false, "", "", 0⟩, ⟨"A", 3, 1, false, "", "", 8⟩, ⟨"B", 3, 2, false, "", "", 16⟩, ⟨"List", 26, 3, false, "", "", 24⟩], 4, 48, [.int .i64 0, .int .i64 0, .int .i64 0, .slice none 0 0], .agg #[.int .i64 0, .int .i64 0, .int .i64 0, .slice none 0 0]⟩,
  ⟨.func #[3, 35] #[4] false, 1, 8, [.nilFunc], .nilFunc⟩,
  ⟨.struct #[⟨"Name", 9, 0, false, "", "", 0⟩, ⟨"Op", 3, 1, false, "", "", 16⟩, ⟨"Text", 9, 2, false, "", "", 24⟩], 3, 40, [.string ⟨#[]⟩, .int .i64 0, .string ⟨#[]⟩], .agg #[.string ⟨#[]⟩, .int .i64 0, .string ⟨#[]⟩]⟩,
  ⟨.struct #[⟨"Name", 9, 0, false, "", "", 0⟩, ⟨"Op", 3, 1, false, "", "", 16⟩, ⟨"Text", 9, 2, false, "", "", 24⟩], 3, 40, [.string ⟨#[]⟩, .int .i64 0, .string ⟨#[]⟩], .agg #[.string ⟨#[]⟩, .int .i64 0, .string ⟨#[]⟩]⟩,
  ⟨.func #[9, 3, 9, 4, 4] #[4] false, 1, 8, [.nilFunc], .nilFunc⟩,
  ⟨.func #[3] #[9] false, 1, 8, [.nilFunc], .nilFunc⟩,
  ⟨.func #[3, 3] #[4] false, 1, 8, [.nilFunc], .nilFunc⟩,
  ⟨.func #[3, 4, 4] #[4] false, 1, 8, [.nilFunc], .nilFunc⟩,
  ⟨.func #[3] #[4] false, 1, 8, [.nilFunc], .nilFunc⟩,
  ⟨.slice 3, 1, 24, [.slice none 0 0], .slice none 0 0⟩,
  ⟨.func #[35] #[4] false, 1, 8, [.nilFunc], .nilFunc⟩,
  ⟨.pointer 60, 1, 8, [.pointer none], .pointer none⟩,
  ⟨.struct #[⟨"t", 22, 0, false, "", "tapestrier/sel", 0⟩, ⟨"i", 3, 1, false, "", "tapestrier/sel", 24⟩, ⟨"deep", 3, 2, false, "", "tapestrier/sel", 32⟩], 3, 40, [.slice none 0 0, .int .i64 0, .int .i64 0], .agg #[.slice none 0 0, .int .i64 0, .int .i64 0]⟩,
  ⟨.struct #[⟨"t", 22, 0, false, "", "tapestrier/sel", 0⟩, ⟨"i", 3, 1, false, "", "tapestrier/sel", 24⟩, ⟨"deep", 3, 2, false, "", "tapestrier/sel", 32⟩], 3, 40, [.slice none 0 0, .int .i64 0, .int .i64 0], .agg #[.slice none 0 0, .int .i64 0, .int .i64 0]⟩,
  ⟨.func #[] #[26, 4] false, 1, 8, [.nilFunc], .nilFunc⟩,
  ⟨.pointer 64, 1, 8, [.pointer none], .pointer none⟩,
  ⟨.struct #[⟨"t", 22, 0, false, "", "tapestrier/tapestrierref1", 0⟩, ⟨"at", 3, 1, false, "", "tapestrier/tapestrierref1", 24⟩, ⟨"bad", 4, 2, false, "", "tapestrier/tapestrierref1", 32⟩, ⟨"deep", 3, 3, false, "", "tapestrier/tapestrierref1", 40⟩], 4, 48, [.slice none 0 0, .int .i64 0, .bool false, .int .i64 0], .agg #[.slice none 0 0, .int .i64 0, .bool false, .int .i64 0]⟩,
  ⟨.struct #[⟨"t", 22, 0, false, "", "tapestrier/tapestrierref1", 0⟩, ⟨"at", 3, 1, false, "", "tapestrier/tapestrierref1", 24⟩, ⟨"bad", 4, 2, false, "", "tapestrier/tapestrierref1", 32⟩, ⟨"deep", 3, 3, false, "", "tapestrier/tapestrierref1", 40⟩], 4, 48, [.slice none 0 0, .int .i64 0, .bool false, .int .i64 0], .agg #[.slice none 0 0, .int .i64 0, .bool false, .int .i64 0]⟩,
  ⟨.func #[] #[26] false, 1, 8, [.nilFunc], .nilFunc⟩,
  ⟨.func #[40, 40] #[4] false, 1, 8, [.nilFunc], .nilFunc⟩,
  ⟨.func #[56] #[22] false, 1, 8, [.nilFunc], .nilFunc⟩,
  ⟨.func #[32] #[56] false, 1, 8, [.nilFunc], .nilFunc⟩,
  ⟨.invalid, 0, 0, [], .tuple #[]⟩,
  ⟨.func #[] #[45, 4] false, 1, 8, [.nilFunc], .nilFunc⟩,
  ⟨.func #[] #[45] false, 1, 8, [.nilFunc], .nilFunc⟩,
  ⟨.func #[3] #[25] false, 1, 8, [.nilFunc], .nilFunc⟩,
  ⟨.func #[36, 36] #[4] false, 1, 8, [.nilFunc], .nilFunc⟩,
  ⟨.pointer 76, 1, 8, [.pointer none], .pointer none⟩,
  ⟨.struct #[⟨"l", 56, 0, false, "", "tapestrier/tapestrierref1", 0⟩, ⟨"at", 3, 1, false, "", "tapestrier/tapestrierref1", 24⟩], 2, 32, [.slice none 0 0, .int .i64 0], .agg #[.slice none 0 0, .int .i64 0]⟩,
  ⟨.struct #[⟨"l", 56, 0, false, "", "tapestrier/tapestrierref1", 0⟩, ⟨"at", 3, 1, false, "", "tapestrier/tapestrierref1", 24⟩], 2, 32, [.slice none 0 0, .int .i64 0], .agg #[.slice none 0 0, .int .i64 0]⟩,
  ⟨.func #[3] #[3] false, 1, 8, [.nilFunc], .nilFunc⟩,
  ⟨.func #[] #[25] false, 1, 8, [.nilFunc], .nilFunc⟩,
  ⟨.func #[] #[9] false, 1, 8, [.nilFunc], .nilFunc⟩,
  ⟨.invalid, 0, 0, [], .tuple #[]⟩,
  ⟨.func #[] #[40, 4] false, 1, 8, [.nilFunc], .nilFunc⟩,
  ⟨.invalid, 0, 0, [], .tuple #[]⟩,
  ⟨.func #[] #[3, 4] false, 1, 8, [.nilFunc], .nilFunc⟩,
  ⟨.func #[] #[40] false, 1, 8, [.nilFunc], .nilFunc⟩,
  ⟨.func #[] #[3] false, 1, 8, [.nilFunc], .nilFunc⟩,
  ⟨.func #[32, 3] #[32] false, 1, 8, [.nilFunc], .nilFunc⟩,
  ⟨.func #[9] #[3, 4] false, 1, 8, [.nilFunc], .nilFunc⟩,
  ⟨.invalid, 0, 0, [], .tuple #[]⟩,
  ⟨.func #[32] #[3, 3] false, 1, 8, [.nilFunc], .nilFunc⟩,
  ⟨.func #[9] #[9] false, 1, 8, [.nilFunc], .nilFunc⟩,
  ⟨.invalid, 0, 0, [], .tuple #[]⟩,
  ⟨.func #[93] #[4, 4] false, 1, 8, [.nilFunc], .nilFunc⟩,
  ⟨.pointer 40, 1, 8, [.pointer none], .pointer none⟩,
  ⟨.func #[] #[50] false, 1, 8, [.nilFunc], .nilFunc⟩,
  ⟨.func #[] #[47] false, 1, 8, [.nilFunc], .nilFunc⟩,
  ⟨.int .u64, 1, 8, [.int .u64 0], .int .u64 0⟩,
  ⟨.func #[25, 3] #[4] false, 1, 8, [.nilFunc], .nilFunc⟩,
  ⟨.invalid, 0, 0, [], .tuple #[]⟩,
  ⟨.func #[] #[50, 4] false, 1, 8, [.nilFunc], .nilFunc⟩,
  ⟨.invalid, 0, 0, [], .tuple #[]⟩,
  ⟨.func #[] #[47, 4] false, 1, 8, [.nilFunc], .nilFunc⟩,
  ⟨.func #[9, 36] #[3, 4] false, 1, 8, [.nilFunc], .nilFunc⟩,
  ⟨.func #[9] #[3] false, 1, 8, [.nilFunc], .nilFunc⟩,
  ⟨.func #[3] #[47, 4] false, 1, 8, [.nilFunc], .nilFunc⟩,
  ⟨.invalid, 0, 0, [], .tuple #[]⟩,
  ⟨.invalid, 0, 0, [], .tuple #[]⟩,
  ⟨.array 0 16, 0, 0, [], .agg #[]⟩,
  ⟨.invalid, 0, 0, [], .tuple #[]⟩,
  ⟨.invalid, 0, 0, [], .tuple #[]⟩,
  ⟨.int .u32, 1, 4, [.int .u32 0], .int .u32 0⟩,
  ⟨.int .u8, 1, 1, [.int .u8 0], .int .u8 0⟩,
  ⟨.int .u8, 1, 1, [.int .u8 0], .int .u8 0⟩,
  ⟨.func #[119, 119] #[4] false, 1, 8, [.nilFunc], .nilFunc⟩,
  ⟨.pointer 5, 1, 8, [.pointer none], .pointer none⟩,
  ⟨.int .i32, 1, 4, [.int .i32 0], .int .i32 0⟩,
  ⟨.int .i32, 1, 4, [.int .i32 0], .int .i32 0⟩,
  ⟨.invalid, 0, 0, [], .tuple #[]⟩,
  ⟨.invalid, 0, 0, [], .tuple #[]⟩,
  ⟨.invalid, 0, 0, [], .tuple #[]⟩]
set_option maxRecDepth 100000 in
theorem tab_ok : TabOk Try.prog 0 tab := by
  refine ⟨.inl rfl, ?_⟩
  refine ⟨.inr ⟨by kernel_rfl, by kernel_rfl, by kernel_rfl, trivial⟩, ?_⟩
  refine ⟨.inr ⟨by kernel_rfl, by kernel_rfl, by kernel_rfl, trivial⟩, ?_⟩
  refine ⟨.inr ⟨by kernel_rfl, by kernel_rfl, by kernel_rfl, trivial⟩, ?_⟩
  refine ⟨.inr ⟨by kernel_rfl, by kernel_rfl, by kernel_rfl, trivial⟩, ?_⟩
  refine ⟨.inr ⟨by kernel_rfl, by kernel_rfl, by kernel_rfl, trivial⟩, ?_⟩
  refine ⟨.inr ⟨by kernel_rfl, by kernel_rfl, by kernel_rfl, trivial⟩, ?_⟩
  refine ⟨.inl rfl, ?_⟩
  refine ⟨.inl rfl, ?_⟩
  refine ⟨.inr ⟨by kernel_rfl, by kernel_rfl, by kernel_rfl, trivial⟩, ?_⟩
  refine ⟨.inr ⟨by kernel_rfl, by kernel_rfl, by kernel_rfl, trivial⟩, ?_⟩
  refine ⟨.inr ⟨by kernel_rfl, by kernel_rfl, by kernel_rfl, trivial⟩, ?_⟩
  refine ⟨.inr ⟨by kernel_rfl, by kernel_rfl, by kernel_rfl, trivial⟩, ?_⟩
  refine ⟨.inl rfl, ?_⟩
  refine ⟨.inl rfl, ?_⟩
  refine ⟨.inr ⟨by kernel_rfl, by kernel_rfl, by kernel_rfl, trivial⟩, ?_⟩
  refine ⟨.inr ⟨by kernel_rfl, by kernel_rfl, by kernel_rfl, trivial⟩, ?_⟩
  refine ⟨.inr ⟨by kernel_rfl, by kernel_rfl, by kernel_rfl, trivial⟩, ?_⟩
  refine ⟨.inl rfl, ?_⟩
  refine ⟨.inl rfl, ?_⟩
  refine ⟨.inl rfl, ?_⟩
  refine ⟨.inr ⟨by kernel_rfl, by kernel_rfl, by kernel_rfl, trivial⟩, ?_⟩
  refine ⟨.inr ⟨by kernel_rfl, by kernel_rfl, by kernel_rfl, trivial⟩, ?_⟩
  refine ⟨.inr ⟨by kernel_rfl, by kernel_rfl, by kernel_rfl, trivial⟩, ?_⟩
  refine ⟨.inr ⟨by kernel_rfl, by kernel_rfl, by kernel_rfl, by kernel_rfl, by kernel_rfl, by kernel_rfl⟩, ?_⟩
  refine ⟨.inr ⟨by kernel_rfl, by kernel_rfl, by kernel_rfl, by kernel_rfl, by kernel_rfl, by kernel_rfl⟩, ?_⟩
  refine ⟨.inr ⟨by kernel_rfl, by kernel_rfl, by kernel_rfl, trivial⟩, ?_⟩
  refine ⟨.inl rfl, ?_⟩
  refine ⟨.inr ⟨by kernel_rfl, by kernel_rfl, by kernel_rfl, trivial⟩, ?_⟩
  refine ⟨.inr ⟨by kernel_rfl, by kernel_rfl, by kernel_rfl, trivial⟩, ?_⟩
  refine ⟨.inr ⟨by kernel_rfl, by kernel_rfl, by kernel_rfl, trivial⟩, ?_⟩
  refine ⟨.inr ⟨by kernel_rfl, by kernel_rfl, by kernel_rfl, trivial⟩, ?_⟩
  refine ⟨.inr ⟨by kernel_rfl, by kernel_rfl, by kernel_rfl, trivial⟩, ?_⟩
  refine ⟨.inr ⟨by kernel_rfl, by kernel_rfl, by kernel_rfl, trivial⟩, ?_⟩
  refine ⟨.inr ⟨by kernel_rfl, by kernel_rfl, by kernel_rfl, trivial⟩, ?_⟩
  refine ⟨.inr ⟨by kernel_rfl, by kernel_rfl, by kernel_rfl, trivial⟩, ?_⟩
  refine ⟨.inr ⟨by kernel_rfl, by kernel_rfl, by kernel_rfl, trivial⟩, ?_⟩
  refine ⟨.inr ⟨by kernel_rfl, by kernel_rfl, by kernel_rfl, trivial⟩, ?_⟩
  refine ⟨.inr ⟨by kernel_rfl, by kernel_rfl, by kernel_rfl, trivial⟩, ?_⟩
  refine ⟨.inr ⟨by kernel_rfl, by kernel_rfl, by kernel_rfl, by kernel_rfl, by kernel_rfl, by kernel_rfl⟩, ?_⟩
  refine ⟨.inr ⟨by kernel_rfl, by kernel_rfl, by kernel_rfl, by kernel_rfl, by kernel_rfl, by kernel_rfl⟩, ?_⟩
  refine ⟨.inr ⟨by kernel_rfl, by kernel_rfl, by kernel_rfl, by kernel_rfl, by kernel_rfl, by kernel_rfl⟩, ?_⟩
  refine ⟨.inr ⟨by kernel_rfl, by kernel_rfl, by kernel_rfl, by kernel_rfl, by kernel_rfl, by kernel_rfl⟩, ?_⟩
  refine ⟨.inr ⟨by kernel_rfl, by kernel_rfl, by kernel_rfl, trivial⟩, ?_⟩
  refine ⟨.inr ⟨by kernel_rfl, by kernel_rfl, by kernel_rfl, by kernel_rfl, by kernel_rfl, by kernel_rfl⟩, ?_⟩
  refine ⟨.inr ⟨by kernel_rfl, by kernel_rfl, by kernel_rfl, by kernel_rfl, by kernel_rfl, by kernel_rfl⟩, ?_⟩
  refine ⟨.inr ⟨by kernel_rfl, by kernel_rfl, by kernel_rfl, by kernel_rfl, by kernel_rfl, by kernel_rfl⟩, ?_⟩
  refine ⟨.inr ⟨by kernel_rfl, by kernel_rfl, by kernel_rfl, by kernel_rfl, by kernel_rfl, by kernel_rfl⟩, ?_⟩
  refine ⟨.inr ⟨by kernel_rfl, by kernel_rfl, by kernel_rfl, trivial⟩, ?_⟩
  refine ⟨.inr ⟨by kernel_rfl, by kernel_rfl, by kernel_rfl, by kernel_rfl, by kernel_rfl, by kernel_rfl⟩, ?_⟩
  refine ⟨.inr ⟨by kernel_rfl, by kernel_rfl, by kernel_rfl, by kernel_rfl, by kernel_rfl, by kernel_rfl⟩, ?_⟩
  refine ⟨.inr ⟨by kernel_rfl, by kernel_rfl, by kernel_rfl, trivial⟩, ?_⟩
  refine ⟨.inr ⟨by kernel_rfl, by kernel_rfl, by kernel_rfl, trivial⟩, ?_⟩
  refine ⟨.inr ⟨by kernel_rfl, by kernel_rfl, by kernel_rfl, trivial⟩, ?_⟩
  refine ⟨.inr ⟨by kernel_rfl, by kernel_rfl, by kernel_rfl, trivial⟩, ?_⟩
  refine ⟨.inr ⟨by kernel_rfl, by kernel_rfl, by kernel_rfl, trivial⟩, ?_⟩
  refine ⟨.inr ⟨by kernel_rfl, by kernel_rfl, by kernel_rfl, trivial⟩, ?_⟩
  refine ⟨.inr ⟨by kernel_rfl, by kernel_rfl, by kernel_rfl, trivial⟩, ?_⟩
  refine ⟨.inr ⟨by kernel_rfl, by kernel_rfl, by kernel_rfl, trivial⟩, ?_⟩
  refine ⟨.inr ⟨by kernel_rfl, by kernel_rfl, by kernel_rfl, by kernel_rfl, by kernel_rfl, by kernel_rfl⟩, ?_⟩
  refine ⟨.inr ⟨by kernel_rfl, by kernel_rfl, by kernel_rfl, by kernel_rfl, by kernel_rfl, by kernel_rfl⟩, ?_⟩
  refine ⟨.inr ⟨by kernel_rfl, by kernel_rfl, by kernel_rfl, trivial⟩, ?_⟩
  refine ⟨.inr ⟨by kernel_rfl, by kernel_rfl, by kernel_rfl, trivial⟩, ?_⟩
  refine ⟨.inr ⟨by kernel_rfl, by kernel_rfl, by kernel_rfl, by kernel_rfl, by kernel_rfl, by kernel_rfl⟩, ?_⟩
  refine ⟨.inr ⟨by kernel_rfl, by kernel_rfl, by kernel_rfl, by kernel_rfl, by kernel_rfl, by kernel_rfl⟩, ?_⟩
  refine ⟨.inr ⟨by kernel_rfl, by kernel_rfl, by kernel_rfl, trivial⟩, ?_⟩
  refine ⟨.inr ⟨by kernel_rfl, by kernel_rfl, by kernel_rfl, trivial⟩, ?_⟩
  refine ⟨.inr ⟨by kernel_rfl, by kernel_rfl, by kernel_rfl, trivial⟩, ?_⟩
  refine ⟨.inr ⟨by kernel_rfl, by kernel_rfl, by kernel_rfl, trivial⟩, ?_⟩
  refine ⟨.inl rfl, ?_⟩
  refine ⟨.inr ⟨by kernel_rfl, by kernel_rfl, by kernel_rfl, trivial⟩, ?_⟩
  refine ⟨.inr ⟨by kernel_rfl, by kernel_rfl, by kernel_rfl, trivial⟩, ?_⟩
  refine ⟨.inr ⟨by kernel_rfl, by kernel_rfl, by kernel_rfl, trivial⟩, ?_⟩
  refine ⟨.inr ⟨by kernel_rfl, by kernel_rfl, by kernel_rfl, trivial⟩, ?_⟩
  refine ⟨.inr ⟨by kernel_rfl, by kernel_rfl, by kernel_rfl, trivial⟩, ?_⟩
  refine ⟨.inr ⟨by kernel_rfl, by kernel_rfl, by kernel_rfl, by kernel_rfl, by kernel_rfl, by kernel_rfl⟩, ?_⟩
  refine ⟨.inr ⟨by kernel_rfl, by kernel_rfl, by kernel_rfl, by kernel_rfl, by kernel_rfl, by kernel_rfl⟩, ?_⟩
  refine ⟨.inr ⟨by kernel_rfl, by kernel_rfl, by kernel_rfl, trivial⟩, ?_⟩
  refine ⟨.inr ⟨by kernel_rfl, by kernel_rfl, by kernel_rfl, trivial⟩, ?_⟩
  refine ⟨.inr ⟨by kernel_rfl, by kernel_rfl, by kernel_rfl, trivial⟩, ?_⟩
  refine ⟨.inl rfl, ?_⟩
  refine ⟨.inr ⟨by kernel_rfl, by kernel_rfl, by kernel_rfl, trivial⟩, ?_⟩
  refine ⟨.inl rfl, ?_⟩
  refine ⟨.inr ⟨by kernel_rfl, by kernel_rfl, by kernel_rfl, trivial⟩, ?_⟩
  refine ⟨.inr ⟨by kernel_rfl, by kernel_rfl, by kernel_rfl, trivial⟩, ?_⟩
  refine ⟨.inr ⟨by kernel_rfl, by kernel_rfl, by kernel_rfl, trivial⟩, ?_⟩
  refine ⟨.inr ⟨by kernel_rfl, by kernel_rfl, by kernel_rfl, trivial⟩, ?_⟩
  refine ⟨.inr ⟨by kernel_rfl, by kernel_rfl, by kernel_rfl, trivial⟩, ?_⟩
  refine ⟨.inl rfl, ?_⟩
  refine ⟨.inr ⟨by kernel_rfl, by kernel_rfl, by kernel_rfl, trivial⟩, ?_⟩
  refine ⟨.inr ⟨by kernel_rfl, by kernel_rfl, by kernel_rfl, trivial⟩, ?_⟩
  refine ⟨.inl rfl, ?_⟩
  refine ⟨.inr ⟨by kernel_rfl, by kernel_rfl, by kernel_rfl, trivial⟩, ?_⟩
  refine ⟨.inr ⟨by kernel_rfl, by kernel_rfl, by kernel_rfl, trivial⟩, ?_⟩
  refine ⟨.inr ⟨by kernel_rfl, by kernel_rfl, by kernel_rfl, trivial⟩, ?_⟩
  refine ⟨.inr ⟨by kernel_rfl, by kernel_rfl, by kernel_rfl, trivial⟩, ?_⟩
  refine ⟨.inr ⟨by kernel_rfl, by kernel_rfl, by kernel_rfl, trivial⟩, ?_⟩
  refine ⟨.inr ⟨by kernel_rfl, by kernel_rfl, by kernel_rfl, trivial⟩, ?_⟩
  refine ⟨.inl rfl, ?_⟩
  refine ⟨.inr ⟨by kernel_rfl, by kernel_rfl, by kernel_rfl, trivial⟩, ?_⟩
  refine ⟨.inl rfl, ?_⟩
  refine ⟨.inr ⟨by kernel_rfl, by kernel_rfl, by kernel_rfl, trivial⟩, ?_⟩
  refine ⟨.inr ⟨by kernel_rfl, by kernel_rfl, by kernel_rfl, trivial⟩, ?_⟩
  refine ⟨.inr ⟨by kernel_rfl, by kernel_rfl, by kernel_rfl, trivial⟩, ?_⟩
  refine ⟨.inr ⟨by kernel_rfl, by kernel_rfl, by kernel_rfl, trivial⟩, ?_⟩
  refine ⟨.inl rfl, ?_⟩
  refine ⟨.inl rfl, ?_⟩
  refine ⟨.inr ⟨by kernel_rfl, by kernel_rfl, by kernel_rfl, trivial⟩, ?_⟩
  refine ⟨.inl rfl, ?_⟩
  refine ⟨.inl rfl, ?_⟩
  refine ⟨.inr ⟨by kernel_rfl, by kernel_rfl, by kernel_rfl, trivial⟩, ?_⟩
  refine ⟨.inr ⟨by kernel_rfl, by kernel_rfl, by kernel_rfl, trivial⟩, ?_⟩
  refine ⟨.inr ⟨by kernel_rfl, by kernel_rfl, by kernel_rfl, trivial⟩, ?_⟩
  refine ⟨.inr ⟨by kernel_rfl, by kernel_rfl, by kernel_rfl, trivial⟩, ?_⟩
  refine ⟨.inr ⟨by kernel_rfl, by kernel_rfl, by kernel_rfl, trivial⟩, ?_⟩
  refine ⟨.inr ⟨by kernel_rfl, by kernel_rfl, by kernel_rfl, trivial⟩, ?_⟩
  refine ⟨.inr ⟨by kernel_rfl, by kernel_rfl, by kernel_rfl, trivial⟩, ?_⟩
  refine ⟨.inl rfl, ?_⟩
  refine ⟨.inl rfl, ?_⟩
  refine ⟨.inl rfl, ?_⟩
  exact trivial
end Go.Proofs.Ytdfiegleaknleaa.Aw
