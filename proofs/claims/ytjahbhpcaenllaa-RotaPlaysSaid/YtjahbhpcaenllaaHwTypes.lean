/- Closed facts on this seat's types and functions: zero value, cells, bytes; that a call enters. Printed by a program off the translation. -/
import Derived.Test.YtjahbhpcaenllaaProg
import Derived.Test.YtjahbhpcaenllaaHwOps
import Derived.Shelf.Abstract
namespace Go.Proofs
open Go.Hw
theorem Try.mixed : Try.prog.follows .mixedOrders = true := by kernel_rfl
theorem Try.inf2 : Inf Try.prog 2 (.int .i64 0) 1 8 := by unfold Inf; kernel_rfl
theorem Try.inf3 : Inf Try.prog 3 (.int .i64 0) 1 8 := by unfold Inf; kernel_rfl
theorem Try.inf4 : Inf Try.prog 4 (.bool false) 1 1 := by unfold Inf; kernel_rfl
theorem Try.inf5 : Inf Try.prog 5 (.int .u8 0) 1 1 := by unfold Inf; kernel_rfl
theorem Try.inf6 : Inf Try.prog 6 (.int .u8 0) 1 1 := by unfold Inf; kernel_rfl
theorem Try.inf7 : Inf Try.prog 7 (.agg #[.int .i64 0, .int .i64 0, .bool false, .int .u8 0]) 4 24 := by unfold Inf; kernel_rfl
theorem Try.inf8 : Inf Try.prog 8 (.agg #[.int .i64 0, .int .i64 0, .bool false, .int .u8 0]) 4 24 := by unfold Inf; kernel_rfl
theorem Try.inf9 : Inf Try.prog 9 (.string ByteArray.empty) 1 16 := by unfold Inf; kernel_rfl
theorem Try.inf10 : Inf Try.prog 10 (.string ByteArray.empty) 1 16 := by unfold Inf; kernel_rfl
theorem Try.inf11 : Inf Try.prog 11 (.string ByteArray.empty) 1 16 := by unfold Inf; kernel_rfl
theorem Try.inf12 : Inf Try.prog 12 (.int .u64 0) 1 8 := by unfold Inf; kernel_rfl
theorem Try.inf13 : Inf Try.prog 13 (.agg #[.string ByteArray.empty, .int .u64 0]) 2 24 := by unfold Inf; kernel_rfl
theorem Try.inf14 : Inf Try.prog 14 (.agg #[.string ByteArray.empty, .int .u64 0]) 2 24 := by unfold Inf; kernel_rfl
theorem Try.inf15 : Inf Try.prog 15 (.pointer none) 1 8 := by unfold Inf; kernel_rfl
theorem Try.inf16 : Inf Try.prog 16 (.pointer none) 1 8 := by unfold Inf; kernel_rfl
theorem Try.inf17 : Inf Try.prog 17 (.pointer none) 1 8 := by unfold Inf; kernel_rfl
theorem Try.inf18 : Inf Try.prog 18 (.agg #[.pointer none]) 1 8 := by unfold Inf; kernel_rfl
theorem Try.inf19 : Inf Try.prog 19 (.agg #[.pointer none]) 1 8 := by unfold Inf; kernel_rfl
theorem Try.inf20 : Inf Try.prog 20 (.nilIface) 1 16 := by unfold Inf; kernel_rfl
theorem Try.inf21 : Inf Try.prog 21 (.int .i32 0) 1 4 := by unfold Inf; kernel_rfl
theorem Try.inf22 : Inf Try.prog 22 (.slice none 0 0) 1 24 := by unfold Inf; kernel_rfl
theorem Try.inf23 : Inf Try.prog 23 (.slice none 0 0) 1 24 := by unfold Inf; kernel_rfl
theorem Try.inf24 : Inf Try.prog 24 (.agg #[.slice none 0 0, .slice none 0 0, .int .i64 0]) 3 56 := by unfold Inf; kernel_rfl
theorem Try.inf25 : Inf Try.prog 25 (.agg #[.slice none 0 0, .slice none 0 0, .int .i64 0]) 3 56 := by unfold Inf; kernel_rfl
theorem Try.inf27 : Inf Try.prog 27 (.slice none 0 0) 1 24 := by unfold Inf; kernel_rfl
theorem Try.inf28 : Inf Try.prog 28 (.agg #[.int .i64 0, .int .i64 0, .int .i64 0, .int .i64 0, .int .i64 0, .int .i64 0, .int .i64 0]) 7 56 := by unfold Inf; kernel_rfl
theorem Try.inf29 : Inf Try.prog 29 (.agg #[.int .i64 0, .int .i64 0, .int .i64 0, .int .i64 0, .int .i64 0, .int .i64 0, .int .i64 0]) 7 56 := by unfold Inf; kernel_rfl
theorem Try.inf30 : Inf Try.prog 30 (.agg #[.int .i64 0, .bool false]) 2 16 := by unfold Inf; kernel_rfl
theorem Try.inf31 : Inf Try.prog 31 (.agg #[.int .i64 0, .bool false]) 2 16 := by unfold Inf; kernel_rfl
theorem Try.inf34 : Inf Try.prog 34 (.slice none 0 0) 1 24 := by unfold Inf; kernel_rfl
theorem Try.inf41 : Inf Try.prog 41 (.slice none 0 0) 1 24 := by unfold Inf; kernel_rfl
theorem Try.inf42 : Inf Try.prog 42 (.pointer none) 1 8 := by unfold Inf; kernel_rfl
theorem Try.inf43 : Inf Try.prog 43 (.map none) 1 8 := by unfold Inf; kernel_rfl
theorem Try.inf44 : Inf Try.prog 44 (.map none) 1 8 := by unfold Inf; kernel_rfl
theorem Try.inf45 : Inf Try.prog 45 (.agg #[.map none, .map none, .int .i64 0]) 3 24 := by unfold Inf; kernel_rfl
theorem Try.inf46 : Inf Try.prog 46 (.agg #[.map none, .map none, .int .i64 0]) 3 24 := by unfold Inf; kernel_rfl
theorem Try.inf47 : Inf Try.prog 47 (.pointer none) 1 8 := by unfold Inf; kernel_rfl
theorem Try.inf48 : Inf Try.prog 48 (.slice none 0 0) 1 24 := by unfold Inf; kernel_rfl
theorem Try.inf49 : Inf Try.prog 49 (.slice none 0 0) 1 24 := by unfold Inf; kernel_rfl
theorem Try.inf50 : Inf Try.prog 50 (.agg #[.slice none 0 0, .slice none 0 0, .int .i64 0]) 3 56 := by unfold Inf; kernel_rfl
theorem Try.inf51 : Inf Try.prog 51 (.agg #[.slice none 0 0, .slice none 0 0, .int .i64 0]) 3 56 := by unfold Inf; kernel_rfl
theorem Try.inf52 : Inf Try.prog 52 (.agg #[.int .i64 0, .int .i64 0, .int .i64 0, .int .i64 0]) 4 32 := by unfold Inf; kernel_rfl
theorem Try.inf53 : Inf Try.prog 53 (.agg #[.int .i64 0, .int .i64 0, .int .i64 0, .int .i64 0]) 4 32 := by unfold Inf; kernel_rfl
theorem Try.inf54 : Inf Try.prog 54 (.agg #[.int .i64 0, .int .i64 0, .int .i64 0, .int .i64 0, .int .i64 0, .bool false]) 6 48 := by unfold Inf; kernel_rfl
theorem Try.inf55 : Inf Try.prog 55 (.agg #[.int .i64 0, .int .i64 0, .int .i64 0, .int .i64 0, .int .i64 0, .bool false]) 6 48 := by unfold Inf; kernel_rfl
theorem Try.inf58 : Inf Try.prog 58 (.agg #[.int .i64 0, .int .i64 0, .int .i64 0]) 3 24 := by unfold Inf; kernel_rfl
theorem Try.inf59 : Inf Try.prog 59 (.agg #[.int .i64 0, .int .i64 0, .int .i64 0]) 3 24 := by unfold Inf; kernel_rfl
theorem Try.inf62 : Inf Try.prog 62 (.slice none 0 0) 1 24 := by unfold Inf; kernel_rfl
theorem Try.inf63 : Inf Try.prog 63 (.agg #[.int .i64 0, .int .i64 0]) 2 16 := by unfold Inf; kernel_rfl
theorem Try.inf64 : Inf Try.prog 64 (.agg #[.int .i64 0, .int .i64 0]) 2 16 := by unfold Inf; kernel_rfl
theorem Try.inf65 : Inf Try.prog 65 (.agg #[.int .i64 0, .int .i64 0, .int .i64 0, .int .i64 0, .int .i64 0]) 5 40 := by unfold Inf; kernel_rfl
theorem Try.inf66 : Inf Try.prog 66 (.agg #[.int .i64 0, .int .i64 0, .int .i64 0, .int .i64 0, .int .i64 0]) 5 40 := by unfold Inf; kernel_rfl
theorem Try.inf67 : Inf Try.prog 67 (.pointer none) 1 8 := by unfold Inf; kernel_rfl
theorem Try.inf68 : Inf Try.prog 68 (.map none) 1 8 := by unfold Inf; kernel_rfl
theorem Try.inf69 : Inf Try.prog 69 (.agg #[.map none]) 1 8 := by unfold Inf; kernel_rfl
theorem Try.inf70 : Inf Try.prog 70 (.agg #[.map none]) 1 8 := by unfold Inf; kernel_rfl
theorem Try.inf71 : Inf Try.prog 71 (.agg #[.bool false, .int .i64 0, .int .i64 0, .int .i64 0]) 4 32 := by unfold Inf; kernel_rfl
theorem Try.inf72 : Inf Try.prog 72 (.agg #[.bool false, .int .i64 0, .int .i64 0, .int .i64 0]) 4 32 := by unfold Inf; kernel_rfl
theorem Try.inf75 : Inf Try.prog 75 (.slice none 0 0) 1 24 := by unfold Inf; kernel_rfl
theorem Try.inf84 : Inf Try.prog 84 (.slice none 0 0) 1 24 := by unfold Inf; kernel_rfl
theorem Try.inf85 : Inf Try.prog 85 (.int .i64 0) 1 8 := by unfold Inf; kernel_rfl
theorem Try.inf86 : Inf Try.prog 86 (.agg #[.int .i64 0, .int .i64 0, .int .i64 0, .int .i64 0, .int .i64 0, .int .i64 0, .int .i64 0, .int .i64 0, .slice none 0 0, .int .i64 0, .int .i64 0, .int .i64 0, .int .i64 0]) 13 120 := by unfold Inf; kernel_rfl
theorem Try.inf87 : Inf Try.prog 87 (.agg #[.int .i64 0, .int .i64 0, .int .i64 0, .int .i64 0, .int .i64 0, .int .i64 0, .int .i64 0, .int .i64 0, .slice none 0 0, .int .i64 0, .int .i64 0, .int .i64 0, .int .i64 0]) 13 120 := by unfold Inf; kernel_rfl
theorem Try.inf88 : Inf Try.prog 88 (.slice none 0 0) 1 24 := by unfold Inf; kernel_rfl
theorem Try.inf90 : Inf Try.prog 90 (.slice none 0 0) 1 24 := by unfold Inf; kernel_rfl
theorem Try.inf91 : Inf Try.prog 91 (.agg #[.slice none 0 0, .int .i64 0]) 2 32 := by unfold Inf; kernel_rfl
theorem Try.inf92 : Inf Try.prog 92 (.agg #[.slice none 0 0, .int .i64 0]) 2 32 := by unfold Inf; kernel_rfl
theorem Try.inf93 : Inf Try.prog 93 (.int .i64 0) 1 8 := by unfold Inf; kernel_rfl
theorem Try.inf97 : Inf Try.prog 97 (.int .u32 0) 1 4 := by unfold Inf; kernel_rfl
theorem Try.inf99 : Inf Try.prog 99 (.agg #[.int .i64 0, .int .i64 0, .int .i64 0, .int .i64 0]) 4 32 := by unfold Inf; kernel_rfl
theorem Try.inf100 : Inf Try.prog 100 (.agg #[.int .i64 0, .int .i64 0, .int .i64 0, .int .i64 0]) 4 32 := by unfold Inf; kernel_rfl
theorem Try.inf102 : Inf Try.prog 102 (.agg #[.int .i64 0, .int .i64 0, .int .i64 0, .bool false]) 4 32 := by unfold Inf; kernel_rfl
theorem Try.inf103 : Inf Try.prog 103 (.agg #[.int .i64 0, .int .i64 0, .int .i64 0, .bool false]) 4 32 := by unfold Inf; kernel_rfl
theorem Try.inf104 : Inf Try.prog 104 (.map none) 1 8 := by unfold Inf; kernel_rfl
theorem Try.inf109 : Inf Try.prog 109 (.agg #[.int .i64 0, .int .i64 0, .int .i64 0]) 3 24 := by unfold Inf; kernel_rfl
theorem Try.inf123 : Inf Try.prog 123 (.int .u64 0) 1 8 := by unfold Inf; kernel_rfl
theorem Try.inf124 : Inf Try.prog 124 (.agg #[.int .u64 0, .int .u64 0]) 2 16 := by unfold Inf; kernel_rfl
theorem Try.inf125 : Inf Try.prog 125 (.agg #[.int .u64 0, .int .u64 0]) 2 16 := by unfold Inf; kernel_rfl
theorem Try.inf131 : Inf Try.prog 131 (.pointer none) 1 8 := by unfold Inf; kernel_rfl
theorem Try.inf136 : Inf Try.prog 136 (.slice none 0 0) 1 24 := by unfold Inf; kernel_rfl
theorem Try.inf137 : Inf Try.prog 137 (.agg #[.int .i64 0, .int .i64 0, .int .i64 0, .int .i64 0, .int .i64 0, .int .i64 0, .int .i64 0, .int .i64 0, .slice none 0 0, .int .i64 0, .int .i64 0, .int .i64 0, .int .i64 0, .slice none 0 0, .int .i64 0, .slice none 0 0, .int .i64 0, .int .i64 0]) 18 192 := by unfold Inf; kernel_rfl
theorem Try.inf138 : Inf Try.prog 138 (.agg #[.int .i64 0, .int .i64 0, .int .i64 0, .int .i64 0, .int .i64 0, .int .i64 0, .int .i64 0, .int .i64 0, .slice none 0 0, .int .i64 0, .int .i64 0, .int .i64 0, .int .i64 0, .slice none 0 0, .int .i64 0, .slice none 0 0, .int .i64 0, .int .i64 0]) 18 192 := by unfold Inf; kernel_rfl
theorem Try.inf143 : Inf Try.prog 143 (.int .i64 0) 1 8 := by unfold Inf; kernel_rfl
theorem Try.inf145 : Inf Try.prog 145 (.agg #[.int .i64 0, .int .i64 0]) 2 16 := by unfold Inf; kernel_rfl
theorem Try.inf146 : Inf Try.prog 146 (.agg #[.int .i64 0, .int .i64 0]) 2 16 := by unfold Inf; kernel_rfl
theorem Try.inf148 : Inf Try.prog 148 (.agg #[.int .i64 0, .int .i64 0]) 2 16 := by unfold Inf; kernel_rfl
theorem Try.inf152 : Inf Try.prog 152 (.slice none 0 0) 1 24 := by unfold Inf; kernel_rfl
theorem Try.inf162 : Inf Try.prog 162 (.agg #[.string ByteArray.empty, .string ByteArray.empty, .string ByteArray.empty, .string ByteArray.empty, .string ByteArray.empty, .string ByteArray.empty, .string ByteArray.empty, .string ByteArray.empty, .string ByteArray.empty, .string ByteArray.empty, .string ByteArray.empty]) 11 176 := by unfold Inf; kernel_rfl
theorem Try.inf163 : Inf Try.prog 163 (.agg #[.int .i64 0, .int .i64 0, .int .i64 0, .int .i64 0, .int .i64 0, .int .i64 0, .int .i64 0, .int .i64 0, .int .i64 0, .int .i64 0, .int .i64 0]) 11 88 := by unfold Inf; kernel_rfl
theorem Try.inf165 : Inf Try.prog 165 (.int .i64 0) 1 8 := by unfold Inf; kernel_rfl
theorem Try.inf166 : Inf Try.prog 166 (.agg #[.int .i64 0, .int .i64 0, .int .i64 0]) 3 24 := by unfold Inf; kernel_rfl
theorem Try.inf167 : Inf Try.prog 167 (.agg #[.int .i64 0, .int .i64 0, .int .i64 0]) 3 24 := by unfold Inf; kernel_rfl
theorem Try.inf169 : Inf Try.prog 169 (.slice none 0 0) 1 24 := by unfold Inf; kernel_rfl
theorem Try.inf172 : Inf Try.prog 172 (.pointer none) 1 8 := by unfold Inf; kernel_rfl
theorem Try.inf175 : Inf Try.prog 175 (.agg #[.slice none 0 0, .pointer none]) 2 32 := by unfold Inf; kernel_rfl
theorem Try.inf176 : Inf Try.prog 176 (.agg #[.slice none 0 0, .pointer none]) 2 32 := by unfold Inf; kernel_rfl
theorem Try.inf185 : Inf Try.prog 185 (.int .u64 0) 1 8 := by unfold Inf; kernel_rfl
theorem Try.inf198 : Inf Try.prog 198 (.map none) 1 8 := by unfold Inf; kernel_rfl
theorem Try.inf199 : Inf Try.prog 199 (.agg #[.map none]) 1 8 := by unfold Inf; kernel_rfl
theorem Try.inf200 : Inf Try.prog 200 (.agg #[.map none]) 1 8 := by unfold Inf; kernel_rfl
theorem Try.inf213 : Inf Try.prog 213 (.int .i64 0) 1 8 := by unfold Inf; kernel_rfl
theorem Try.inf231 : Inf Try.prog 231 (.agg #[.string ByteArray.empty, .string ByteArray.empty, .string ByteArray.empty, .string ByteArray.empty, .string ByteArray.empty, .string ByteArray.empty, .string ByteArray.empty, .string ByteArray.empty, .string ByteArray.empty, .string ByteArray.empty, .string ByteArray.empty, .string ByteArray.empty, .string ByteArray.empty]) 13 208 := by unfold Inf; kernel_rfl
theorem Try.inf232 : Inf Try.prog 232 (.agg #[.int .i64 0, .int .i64 0, .int .i64 0, .int .i64 0, .int .i64 0, .int .i64 0, .int .i64 0, .int .i64 0, .int .i64 0, .int .i64 0, .int .i64 0, .int .i64 0, .int .i64 0]) 13 104 := by unfold Inf; kernel_rfl
theorem Try.inf234 : Inf Try.prog 234 (.slice none 0 0) 1 24 := by unfold Inf; kernel_rfl
theorem Try.inf236 : Inf Try.prog 236 (.agg #[.int .i64 0, .int .i64 0, .int .i64 0]) 3 24 := by unfold Inf; kernel_rfl
theorem Try.inf237 : Inf Try.prog 237 (.agg #[.int .i64 0, .int .i64 0, .int .i64 0]) 3 24 := by unfold Inf; kernel_rfl
theorem Try.inf240 : Inf Try.prog 240 (.slice none 0 0) 1 24 := by unfold Inf; kernel_rfl
theorem Try.inf241 : Inf Try.prog 241 (.int .u64 0) 1 8 := by unfold Inf; kernel_rfl
theorem Try.inf245 : Inf Try.prog 245 (.pointer none) 1 8 := by unfold Inf; kernel_rfl
theorem Try.inf255 : Inf Try.prog 255 (.pointer none) 1 8 := by unfold Inf; kernel_rfl
theorem Try.inf271 : Inf Try.prog 271 (.agg #[.pointer none, .pointer none, .pointer none, .string ByteArray.empty]) 4 40 := by unfold Inf; kernel_rfl
theorem Try.inf272 : Inf Try.prog 272 (.agg #[.pointer none, .pointer none, .pointer none, .string ByteArray.empty]) 4 40 := by unfold Inf; kernel_rfl
theorem Try.inf273 : Inf Try.prog 273 (.agg #[]) 0 0 := by unfold Inf; kernel_rfl
theorem Try.inf274 : Inf Try.prog 274 (.agg #[]) 0 0 := by unfold Inf; kernel_rfl
theorem Try.inf275 : Inf Try.prog 275 (.agg #[]) 0 0 := by unfold Inf; kernel_rfl
theorem Try.inf277 : Inf Try.prog 277 (.int .u8 0) 1 1 := by unfold Inf; kernel_rfl
theorem Try.inf278 : Inf Try.prog 278 (.int .u8 0) 1 1 := by unfold Inf; kernel_rfl
theorem Try.inf280 : Inf Try.prog 280 (.pointer none) 1 8 := by unfold Inf; kernel_rfl
theorem Try.inf281 : Inf Try.prog 281 (.int .i32 0) 1 4 := by unfold Inf; kernel_rfl
theorem Try.inf282 : Inf Try.prog 282 (.int .i32 0) 1 4 := by unfold Inf; kernel_rfl
theorem Try.inf283 : Inf Try.prog 283 (.agg #[.int .u64 0, .int .u64 0, .int .u32 0, .int .u8 0, .int .u8 0, .int .u8 0, .int .u8 0, .nilFunc, .pointer none, .int .i32 0, .int .i32 0]) 11 48 := by unfold Inf; kernel_rfl
theorem Try.inf284 : Inf Try.prog 284 (.agg #[.int .u64 0, .int .u64 0, .int .u32 0, .int .u8 0, .int .u8 0, .int .u8 0, .int .u8 0, .nilFunc, .pointer none, .int .i32 0, .int .i32 0]) 11 48 := by unfold Inf; kernel_rfl
theorem Try.inf285 : Inf Try.prog 285 (.pointer none) 1 8 := by unfold Inf; kernel_rfl
theorem Try.en3 : ∀ args w, (callFunc 3 args).run Try.prog w = .ok (.enter 3 args) w := enters_of Try.func3 (by kernel_rfl) rfl
theorem Try.en4 : ∀ args w, (callFunc 4 args).run Try.prog w = .ok (.enter 4 args) w := enters_of Try.func4 (by kernel_rfl) rfl
theorem Try.en5 : ∀ args w, (callFunc 5 args).run Try.prog w = .ok (.enter 5 args) w := enters_of Try.func5 (by kernel_rfl) rfl
theorem Try.en6 : ∀ args w, (callFunc 6 args).run Try.prog w = .ok (.enter 6 args) w := enters_of Try.func6 (by kernel_rfl) rfl
theorem Try.en7 : ∀ args w, (callFunc 7 args).run Try.prog w = .ok (.enter 7 args) w := enters_of Try.func7 (by kernel_rfl) rfl
theorem Try.en8 : ∀ args w, (callFunc 8 args).run Try.prog w = .ok (.enter 8 args) w := enters_of Try.func8 (by kernel_rfl) rfl
theorem Try.en9 : ∀ args w, (callFunc 9 args).run Try.prog w = .ok (.enter 9 args) w := enters_of Try.func9 (by kernel_rfl) rfl
theorem Try.en10 : ∀ args w, (callFunc 10 args).run Try.prog w = .ok (.enter 10 args) w := enters_of Try.func10 (by kernel_rfl) rfl
theorem Try.en11 : ∀ args w, (callFunc 11 args).run Try.prog w = .ok (.enter 11 args) w := enters_of Try.func11 (by kernel_rfl) rfl
theorem Try.en12 : ∀ args w, (callFunc 12 args).run Try.prog w = .ok (.enter 12 args) w := enters_of Try.func12 (by kernel_rfl) rfl
theorem Try.en13 : ∀ args w, (callFunc 13 args).run Try.prog w = .ok (.enter 13 args) w := enters_of Try.func13 (by kernel_rfl) rfl
theorem Try.en14 : ∀ args w, (callFunc 14 args).run Try.prog w = .ok (.enter 14 args) w := enters_of Try.func14 (by kernel_rfl) rfl
theorem Try.en15 : ∀ args w, (callFunc 15 args).run Try.prog w = .ok (.enter 15 args) w := enters_of Try.func15 (by kernel_rfl) rfl
theorem Try.en16 : ∀ args w, (callFunc 16 args).run Try.prog w = .ok (.enter 16 args) w := enters_of Try.func16 (by kernel_rfl) rfl
theorem Try.en17 : ∀ args w, (callFunc 17 args).run Try.prog w = .ok (.enter 17 args) w := enters_of Try.func17 (by kernel_rfl) rfl
theorem Try.en18 : ∀ args w, (callFunc 18 args).run Try.prog w = .ok (.enter 18 args) w := enters_of Try.func18 (by kernel_rfl) rfl
theorem Try.en19 : ∀ args w, (callFunc 19 args).run Try.prog w = .ok (.enter 19 args) w := enters_of Try.func19 (by kernel_rfl) rfl
theorem Try.en20 : ∀ args w, (callFunc 20 args).run Try.prog w = .ok (.enter 20 args) w := enters_of Try.func20 (by kernel_rfl) rfl
theorem Try.en21 : ∀ args w, (callFunc 21 args).run Try.prog w = .ok (.enter 21 args) w := enters_of Try.func21 (by kernel_rfl) rfl
theorem Try.en22 : ∀ args w, (callFunc 22 args).run Try.prog w = .ok (.enter 22 args) w := enters_of Try.func22 (by kernel_rfl) rfl
theorem Try.en23 : ∀ args w, (callFunc 23 args).run Try.prog w = .ok (.enter 23 args) w := enters_of Try.func23 (by kernel_rfl) rfl
theorem Try.en24 : ∀ args w, (callFunc 24 args).run Try.prog w = .ok (.enter 24 args) w := enters_of Try.func24 (by kernel_rfl) rfl
theorem Try.en25 : ∀ args w, (callFunc 25 args).run Try.prog w = .ok (.enter 25 args) w := enters_of Try.func25 (by kernel_rfl) rfl
theorem Try.en26 : ∀ args w, (callFunc 26 args).run Try.prog w = .ok (.enter 26 args) w := enters_of Try.func26 (by kernel_rfl) rfl
theorem Try.en27 : ∀ args w, (callFunc 27 args).run Try.prog w = .ok (.enter 27 args) w := enters_of Try.func27 (by kernel_rfl) rfl
theorem Try.en28 : ∀ args w, (callFunc 28 args).run Try.prog w = .ok (.enter 28 args) w := enters_of Try.func28 (by kernel_rfl) rfl
theorem Try.en29 : ∀ args w, (callFunc 29 args).run Try.prog w = .ok (.enter 29 args) w := enters_of Try.func29 (by kernel_rfl) rfl
theorem Try.en30 : ∀ args w, (callFunc 30 args).run Try.prog w = .ok (.enter 30 args) w := enters_of Try.func30 (by kernel_rfl) rfl
theorem Try.en31 : ∀ args w, (callFunc 31 args).run Try.prog w = .ok (.enter 31 args) w := enters_of Try.func31 (by kernel_rfl) rfl
theorem Try.en32 : ∀ args w, (callFunc 32 args).run Try.prog w = .ok (.enter 32 args) w := enters_of Try.func32 (by kernel_rfl) rfl
theorem Try.en33 : ∀ args w, (callFunc 33 args).run Try.prog w = .ok (.enter 33 args) w := enters_of Try.func33 (by kernel_rfl) rfl
theorem Try.en34 : ∀ args w, (callFunc 34 args).run Try.prog w = .ok (.enter 34 args) w := enters_of Try.func34 (by kernel_rfl) rfl
theorem Try.en35 : ∀ args w, (callFunc 35 args).run Try.prog w = .ok (.enter 35 args) w := enters_of Try.func35 (by kernel_rfl) rfl
theorem Try.en36 : ∀ args w, (callFunc 36 args).run Try.prog w = .ok (.enter 36 args) w := enters_of Try.func36 (by kernel_rfl) rfl
theorem Try.en37 : ∀ args w, (callFunc 37 args).run Try.prog w = .ok (.enter 37 args) w := enters_of Try.func37 (by kernel_rfl) rfl
theorem Try.en38 : ∀ args w, (callFunc 38 args).run Try.prog w = .ok (.enter 38 args) w := enters_of Try.func38 (by kernel_rfl) rfl
theorem Try.en39 : ∀ args w, (callFunc 39 args).run Try.prog w = .ok (.enter 39 args) w := enters_of Try.func39 (by kernel_rfl) rfl
theorem Try.en40 : ∀ args w, (callFunc 40 args).run Try.prog w = .ok (.enter 40 args) w := enters_of Try.func40 (by kernel_rfl) rfl
theorem Try.en41 : ∀ args w, (callFunc 41 args).run Try.prog w = .ok (.enter 41 args) w := enters_of Try.func41 (by kernel_rfl) rfl
theorem Try.en42 : ∀ args w, (callFunc 42 args).run Try.prog w = .ok (.enter 42 args) w := enters_of Try.func42 (by kernel_rfl) rfl
theorem Try.en43 : ∀ args w, (callFunc 43 args).run Try.prog w = .ok (.enter 43 args) w := enters_of Try.func43 (by kernel_rfl) rfl
theorem Try.en44 : ∀ args w, (callFunc 44 args).run Try.prog w = .ok (.enter 44 args) w := enters_of Try.func44 (by kernel_rfl) rfl
theorem Try.en45 : ∀ args w, (callFunc 45 args).run Try.prog w = .ok (.enter 45 args) w := enters_of Try.func45 (by kernel_rfl) rfl
theorem Try.en46 : ∀ args w, (callFunc 46 args).run Try.prog w = .ok (.enter 46 args) w := enters_of Try.func46 (by kernel_rfl) rfl
theorem Try.en47 : ∀ args w, (callFunc 47 args).run Try.prog w = .ok (.enter 47 args) w := enters_of Try.func47 (by kernel_rfl) rfl
theorem Try.en48 : ∀ args w, (callFunc 48 args).run Try.prog w = .ok (.enter 48 args) w := enters_of Try.func48 (by kernel_rfl) rfl
theorem Try.en49 : ∀ args w, (callFunc 49 args).run Try.prog w = .ok (.enter 49 args) w := enters_of Try.func49 (by kernel_rfl) rfl
theorem Try.en50 : ∀ args w, (callFunc 50 args).run Try.prog w = .ok (.enter 50 args) w := enters_of Try.func50 (by kernel_rfl) rfl
theorem Try.en51 : ∀ args w, (callFunc 51 args).run Try.prog w = .ok (.enter 51 args) w := enters_of Try.func51 (by kernel_rfl) rfl
theorem Try.en52 : ∀ args w, (callFunc 52 args).run Try.prog w = .ok (.enter 52 args) w := enters_of Try.func52 (by kernel_rfl) rfl
theorem Try.en53 : ∀ args w, (callFunc 53 args).run Try.prog w = .ok (.enter 53 args) w := enters_of Try.func53 (by kernel_rfl) rfl
theorem Try.en54 : ∀ args w, (callFunc 54 args).run Try.prog w = .ok (.enter 54 args) w := enters_of Try.func54 (by kernel_rfl) rfl
theorem Try.en55 : ∀ args w, (callFunc 55 args).run Try.prog w = .ok (.enter 55 args) w := enters_of Try.func55 (by kernel_rfl) rfl
theorem Try.en56 : ∀ args w, (callFunc 56 args).run Try.prog w = .ok (.enter 56 args) w := enters_of Try.func56 (by kernel_rfl) rfl
theorem Try.en57 : ∀ args w, (callFunc 57 args).run Try.prog w = .ok (.enter 57 args) w := enters_of Try.func57 (by kernel_rfl) rfl
theorem Try.en58 : ∀ args w, (callFunc 58 args).run Try.prog w = .ok (.enter 58 args) w := enters_of Try.func58 (by kernel_rfl) rfl
theorem Try.en59 : ∀ args w, (callFunc 59 args).run Try.prog w = .ok (.enter 59 args) w := enters_of Try.func59 (by kernel_rfl) rfl
theorem Try.en60 : ∀ args w, (callFunc 60 args).run Try.prog w = .ok (.enter 60 args) w := enters_of Try.func60 (by kernel_rfl) rfl
theorem Try.en61 : ∀ args w, (callFunc 61 args).run Try.prog w = .ok (.enter 61 args) w := enters_of Try.func61 (by kernel_rfl) rfl
theorem Try.en62 : ∀ args w, (callFunc 62 args).run Try.prog w = .ok (.enter 62 args) w := enters_of Try.func62 (by kernel_rfl) rfl
theorem Try.en63 : ∀ args w, (callFunc 63 args).run Try.prog w = .ok (.enter 63 args) w := enters_of Try.func63 (by kernel_rfl) rfl
theorem Try.en64 : ∀ args w, (callFunc 64 args).run Try.prog w = .ok (.enter 64 args) w := enters_of Try.func64 (by kernel_rfl) rfl
theorem Try.en65 : ∀ args w, (callFunc 65 args).run Try.prog w = .ok (.enter 65 args) w := enters_of Try.func65 (by kernel_rfl) rfl
theorem Try.en66 : ∀ args w, (callFunc 66 args).run Try.prog w = .ok (.enter 66 args) w := enters_of Try.func66 (by kernel_rfl) rfl
theorem Try.en67 : ∀ args w, (callFunc 67 args).run Try.prog w = .ok (.enter 67 args) w := enters_of Try.func67 (by kernel_rfl) rfl
theorem Try.en68 : ∀ args w, (callFunc 68 args).run Try.prog w = .ok (.enter 68 args) w := enters_of Try.func68 (by kernel_rfl) rfl
theorem Try.en69 : ∀ args w, (callFunc 69 args).run Try.prog w = .ok (.enter 69 args) w := enters_of Try.func69 (by kernel_rfl) rfl
theorem Try.en70 : ∀ args w, (callFunc 70 args).run Try.prog w = .ok (.enter 70 args) w := enters_of Try.func70 (by kernel_rfl) rfl
theorem Try.en71 : ∀ args w, (callFunc 71 args).run Try.prog w = .ok (.enter 71 args) w := enters_of Try.func71 (by kernel_rfl) rfl
theorem Try.en72 : ∀ args w, (callFunc 72 args).run Try.prog w = .ok (.enter 72 args) w := enters_of Try.func72 (by kernel_rfl) rfl
theorem Try.en73 : ∀ args w, (callFunc 73 args).run Try.prog w = .ok (.enter 73 args) w := enters_of Try.func73 (by kernel_rfl) rfl
theorem Try.en74 : ∀ args w, (callFunc 74 args).run Try.prog w = .ok (.enter 74 args) w := enters_of Try.func74 (by kernel_rfl) rfl
theorem Try.en75 : ∀ args w, (callFunc 75 args).run Try.prog w = .ok (.enter 75 args) w := enters_of Try.func75 (by kernel_rfl) rfl
theorem Try.en76 : ∀ args w, (callFunc 76 args).run Try.prog w = .ok (.enter 76 args) w := enters_of Try.func76 (by kernel_rfl) rfl
theorem Try.en77 : ∀ args w, (callFunc 77 args).run Try.prog w = .ok (.enter 77 args) w := enters_of Try.func77 (by kernel_rfl) rfl
theorem Try.en78 : ∀ args w, (callFunc 78 args).run Try.prog w = .ok (.enter 78 args) w := enters_of Try.func78 (by kernel_rfl) rfl
theorem Try.en79 : ∀ args w, (callFunc 79 args).run Try.prog w = .ok (.enter 79 args) w := enters_of Try.func79 (by kernel_rfl) rfl
theorem Try.en80 : ∀ args w, (callFunc 80 args).run Try.prog w = .ok (.enter 80 args) w := enters_of Try.func80 (by kernel_rfl) rfl
theorem Try.en81 : ∀ args w, (callFunc 81 args).run Try.prog w = .ok (.enter 81 args) w := enters_of Try.func81 (by kernel_rfl) rfl
theorem Try.en82 : ∀ args w, (callFunc 82 args).run Try.prog w = .ok (.enter 82 args) w := enters_of Try.func82 (by kernel_rfl) rfl
theorem Try.en83 : ∀ args w, (callFunc 83 args).run Try.prog w = .ok (.enter 83 args) w := enters_of Try.func83 (by kernel_rfl) rfl
theorem Try.en84 : ∀ args w, (callFunc 84 args).run Try.prog w = .ok (.enter 84 args) w := enters_of Try.func84 (by kernel_rfl) rfl
theorem Try.en85 : ∀ args w, (callFunc 85 args).run Try.prog w = .ok (.enter 85 args) w := enters_of Try.func85 (by kernel_rfl) rfl
theorem Try.en86 : ∀ args w, (callFunc 86 args).run Try.prog w = .ok (.enter 86 args) w := enters_of Try.func86 (by kernel_rfl) rfl
theorem Try.en87 : ∀ args w, (callFunc 87 args).run Try.prog w = .ok (.enter 87 args) w := enters_of Try.func87 (by kernel_rfl) rfl
theorem Try.en88 : ∀ args w, (callFunc 88 args).run Try.prog w = .ok (.enter 88 args) w := enters_of Try.func88 (by kernel_rfl) rfl
theorem Try.en89 : ∀ args w, (callFunc 89 args).run Try.prog w = .ok (.enter 89 args) w := enters_of Try.func89 (by kernel_rfl) rfl
theorem Try.en90 : ∀ args w, (callFunc 90 args).run Try.prog w = .ok (.enter 90 args) w := enters_of Try.func90 (by kernel_rfl) rfl
theorem Try.en91 : ∀ args w, (callFunc 91 args).run Try.prog w = .ok (.enter 91 args) w := enters_of Try.func91 (by kernel_rfl) rfl
theorem Try.en92 : ∀ args w, (callFunc 92 args).run Try.prog w = .ok (.enter 92 args) w := enters_of Try.func92 (by kernel_rfl) rfl
theorem Try.en93 : ∀ args w, (callFunc 93 args).run Try.prog w = .ok (.enter 93 args) w := enters_of Try.func93 (by kernel_rfl) rfl
theorem Try.en94 : ∀ args w, (callFunc 94 args).run Try.prog w = .ok (.enter 94 args) w := enters_of Try.func94 (by kernel_rfl) rfl
theorem Try.en95 : ∀ args w, (callFunc 95 args).run Try.prog w = .ok (.enter 95 args) w := enters_of Try.func95 (by kernel_rfl) rfl
theorem Try.en96 : ∀ args w, (callFunc 96 args).run Try.prog w = .ok (.enter 96 args) w := enters_of Try.func96 (by kernel_rfl) rfl
theorem Try.en97 : ∀ args w, (callFunc 97 args).run Try.prog w = .ok (.enter 97 args) w := enters_of Try.func97 (by kernel_rfl) rfl
theorem Try.en98 : ∀ args w, (callFunc 98 args).run Try.prog w = .ok (.enter 98 args) w := enters_of Try.func98 (by kernel_rfl) rfl
theorem Try.en99 : ∀ args w, (callFunc 99 args).run Try.prog w = .ok (.enter 99 args) w := enters_of Try.func99 (by kernel_rfl) rfl
theorem Try.en100 : ∀ args w, (callFunc 100 args).run Try.prog w = .ok (.enter 100 args) w := enters_of Try.func100 (by kernel_rfl) rfl
theorem Try.en101 : ∀ args w, (callFunc 101 args).run Try.prog w = .ok (.enter 101 args) w := enters_of Try.func101 (by kernel_rfl) rfl
theorem Try.en102 : ∀ args w, (callFunc 102 args).run Try.prog w = .ok (.enter 102 args) w := enters_of Try.func102 (by kernel_rfl) rfl
theorem Try.en103 : ∀ args w, (callFunc 103 args).run Try.prog w = .ok (.enter 103 args) w := enters_of Try.func103 (by kernel_rfl) rfl
theorem Try.en104 : ∀ args w, (callFunc 104 args).run Try.prog w = .ok (.enter 104 args) w := enters_of Try.func104 (by kernel_rfl) rfl
theorem Try.en105 : ∀ args w, (callFunc 105 args).run Try.prog w = .ok (.enter 105 args) w := enters_of Try.func105 (by kernel_rfl) rfl
theorem Try.en106 : ∀ args w, (callFunc 106 args).run Try.prog w = .ok (.enter 106 args) w := enters_of Try.func106 (by kernel_rfl) rfl
theorem Try.en107 : ∀ args w, (callFunc 107 args).run Try.prog w = .ok (.enter 107 args) w := enters_of Try.func107 (by kernel_rfl) rfl
theorem Try.en108 : ∀ args w, (callFunc 108 args).run Try.prog w = .ok (.enter 108 args) w := enters_of Try.func108 (by kernel_rfl) rfl
theorem Try.en109 : ∀ args w, (callFunc 109 args).run Try.prog w = .ok (.enter 109 args) w := enters_of Try.func109 (by kernel_rfl) rfl
theorem Try.en110 : ∀ args w, (callFunc 110 args).run Try.prog w = .ok (.enter 110 args) w := enters_of Try.func110 (by kernel_rfl) rfl
theorem Try.en111 : ∀ args w, (callFunc 111 args).run Try.prog w = .ok (.enter 111 args) w := enters_of Try.func111 (by kernel_rfl) rfl
theorem Try.en112 : ∀ args w, (callFunc 112 args).run Try.prog w = .ok (.enter 112 args) w := enters_of Try.func112 (by kernel_rfl) rfl
theorem Try.en113 : ∀ args w, (callFunc 113 args).run Try.prog w = .ok (.enter 113 args) w := enters_of Try.func113 (by kernel_rfl) rfl
theorem Try.en114 : ∀ args w, (callFunc 114 args).run Try.prog w = .ok (.enter 114 args) w := enters_of Try.func114 (by kernel_rfl) rfl
theorem Try.en115 : ∀ args w, (callFunc 115 args).run Try.prog w = .ok (.enter 115 args) w := enters_of Try.func115 (by kernel_rfl) rfl
theorem Try.en116 : ∀ args w, (callFunc 116 args).run Try.prog w = .ok (.enter 116 args) w := enters_of Try.func116 (by kernel_rfl) rfl
theorem Try.en117 : ∀ args w, (callFunc 117 args).run Try.prog w = .ok (.enter 117 args) w := enters_of Try.func117 (by kernel_rfl) rfl
theorem Try.en118 : ∀ args w, (callFunc 118 args).run Try.prog w = .ok (.enter 118 args) w := enters_of Try.func118 (by kernel_rfl) rfl
theorem Try.en119 : ∀ args w, (callFunc 119 args).run Try.prog w = .ok (.enter 119 args) w := enters_of Try.func119 (by kernel_rfl) rfl
theorem Try.en120 : ∀ args w, (callFunc 120 args).run Try.prog w = .ok (.enter 120 args) w := enters_of Try.func120 (by kernel_rfl) rfl
theorem Try.en121 : ∀ args w, (callFunc 121 args).run Try.prog w = .ok (.enter 121 args) w := enters_of Try.func121 (by kernel_rfl) rfl
theorem Try.en122 : ∀ args w, (callFunc 122 args).run Try.prog w = .ok (.enter 122 args) w := enters_of Try.func122 (by kernel_rfl) rfl
theorem Try.en123 : ∀ args w, (callFunc 123 args).run Try.prog w = .ok (.enter 123 args) w := enters_of Try.func123 (by kernel_rfl) rfl
theorem Try.en124 : ∀ args w, (callFunc 124 args).run Try.prog w = .ok (.enter 124 args) w := enters_of Try.func124 (by kernel_rfl) rfl
theorem Try.en125 : ∀ args w, (callFunc 125 args).run Try.prog w = .ok (.enter 125 args) w := enters_of Try.func125 (by kernel_rfl) rfl
theorem Try.en126 : ∀ args w, (callFunc 126 args).run Try.prog w = .ok (.enter 126 args) w := enters_of Try.func126 (by kernel_rfl) rfl
theorem Try.en127 : ∀ args w, (callFunc 127 args).run Try.prog w = .ok (.enter 127 args) w := enters_of Try.func127 (by kernel_rfl) rfl
theorem Try.en128 : ∀ args w, (callFunc 128 args).run Try.prog w = .ok (.enter 128 args) w := enters_of Try.func128 (by kernel_rfl) rfl
theorem Try.en129 : ∀ args w, (callFunc 129 args).run Try.prog w = .ok (.enter 129 args) w := enters_of Try.func129 (by kernel_rfl) rfl
theorem Try.en130 : ∀ args w, (callFunc 130 args).run Try.prog w = .ok (.enter 130 args) w := enters_of Try.func130 (by kernel_rfl) rfl
theorem Try.en131 : ∀ args w, (callFunc 131 args).run Try.prog w = .ok (.enter 131 args) w := enters_of Try.func131 (by kernel_rfl) rfl
theorem Try.en132 : ∀ args w, (callFunc 132 args).run Try.prog w = .ok (.enter 132 args) w := enters_of Try.func132 (by kernel_rfl) rfl
theorem Try.en133 : ∀ args w, (callFunc 133 args).run Try.prog w = .ok (.enter 133 args) w := enters_of Try.func133 (by kernel_rfl) rfl
theorem Try.en134 : ∀ args w, (callFunc 134 args).run Try.prog w = .ok (.enter 134 args) w := enters_of Try.func134 (by kernel_rfl) rfl
theorem Try.en135 : ∀ args w, (callFunc 135 args).run Try.prog w = .ok (.enter 135 args) w := enters_of Try.func135 (by kernel_rfl) rfl
theorem Try.en136 : ∀ args w, (callFunc 136 args).run Try.prog w = .ok (.enter 136 args) w := enters_of Try.func136 (by kernel_rfl) rfl
theorem Try.en137 : ∀ args w, (callFunc 137 args).run Try.prog w = .ok (.enter 137 args) w := enters_of Try.func137 (by kernel_rfl) rfl
theorem Try.en138 : ∀ args w, (callFunc 138 args).run Try.prog w = .ok (.enter 138 args) w := enters_of Try.func138 (by kernel_rfl) rfl
theorem Try.en139 : ∀ args w, (callFunc 139 args).run Try.prog w = .ok (.enter 139 args) w := enters_of Try.func139 (by kernel_rfl) rfl
theorem Try.en140 : ∀ args w, (callFunc 140 args).run Try.prog w = .ok (.enter 140 args) w := enters_of Try.func140 (by kernel_rfl) rfl
theorem Try.en141 : ∀ args w, (callFunc 141 args).run Try.prog w = .ok (.enter 141 args) w := enters_of Try.func141 (by kernel_rfl) rfl
theorem Try.en142 : ∀ args w, (callFunc 142 args).run Try.prog w = .ok (.enter 142 args) w := enters_of Try.func142 (by kernel_rfl) rfl
theorem Try.en143 : ∀ args w, (callFunc 143 args).run Try.prog w = .ok (.enter 143 args) w := enters_of Try.func143 (by kernel_rfl) rfl
theorem Try.en144 : ∀ args w, (callFunc 144 args).run Try.prog w = .ok (.enter 144 args) w := enters_of Try.func144 (by kernel_rfl) rfl
theorem Try.en145 : ∀ args w, (callFunc 145 args).run Try.prog w = .ok (.enter 145 args) w := enters_of Try.func145 (by kernel_rfl) rfl
theorem Try.en146 : ∀ args w, (callFunc 146 args).run Try.prog w = .ok (.enter 146 args) w := enters_of Try.func146 (by kernel_rfl) rfl
theorem Try.en147 : ∀ args w, (callFunc 147 args).run Try.prog w = .ok (.enter 147 args) w := enters_of Try.func147 (by kernel_rfl) rfl
theorem Try.en148 : ∀ args w, (callFunc 148 args).run Try.prog w = .ok (.enter 148 args) w := enters_of Try.func148 (by kernel_rfl) rfl
theorem Try.en149 : ∀ args w, (callFunc 149 args).run Try.prog w = .ok (.enter 149 args) w := enters_of Try.func149 (by kernel_rfl) rfl
theorem Try.en150 : ∀ args w, (callFunc 150 args).run Try.prog w = .ok (.enter 150 args) w := enters_of Try.func150 (by kernel_rfl) rfl
theorem Try.en151 : ∀ args w, (callFunc 151 args).run Try.prog w = .ok (.enter 151 args) w := enters_of Try.func151 (by kernel_rfl) rfl
theorem Try.en152 : ∀ args w, (callFunc 152 args).run Try.prog w = .ok (.enter 152 args) w := enters_of Try.func152 (by kernel_rfl) rfl
theorem Try.en153 : ∀ args w, (callFunc 153 args).run Try.prog w = .ok (.enter 153 args) w := enters_of Try.func153 (by kernel_rfl) rfl
theorem Try.en154 : ∀ args w, (callFunc 154 args).run Try.prog w = .ok (.enter 154 args) w := enters_of Try.func154 (by kernel_rfl) rfl
theorem Try.en155 : ∀ args w, (callFunc 155 args).run Try.prog w = .ok (.enter 155 args) w := enters_of Try.func155 (by kernel_rfl) rfl
theorem Try.en156 : ∀ args w, (callFunc 156 args).run Try.prog w = .ok (.enter 156 args) w := enters_of Try.func156 (by kernel_rfl) rfl
theorem Try.en157 : ∀ args w, (callFunc 157 args).run Try.prog w = .ok (.enter 157 args) w := enters_of Try.func157 (by kernel_rfl) rfl
theorem Try.en158 : ∀ args w, (callFunc 158 args).run Try.prog w = .ok (.enter 158 args) w := enters_of Try.func158 (by kernel_rfl) rfl
theorem Try.en159 : ∀ args w, (callFunc 159 args).run Try.prog w = .ok (.enter 159 args) w := enters_of Try.func159 (by kernel_rfl) rfl
theorem Try.en160 : ∀ args w, (callFunc 160 args).run Try.prog w = .ok (.enter 160 args) w := enters_of Try.func160 (by kernel_rfl) rfl
theorem Try.en161 : ∀ args w, (callFunc 161 args).run Try.prog w = .ok (.enter 161 args) w := enters_of Try.func161 (by kernel_rfl) rfl
theorem Try.en162 : ∀ args w, (callFunc 162 args).run Try.prog w = .ok (.enter 162 args) w := enters_of Try.func162 (by kernel_rfl) rfl
theorem Try.en163 : ∀ args w, (callFunc 163 args).run Try.prog w = .ok (.enter 163 args) w := enters_of Try.func163 (by kernel_rfl) rfl
theorem Try.en164 : ∀ args w, (callFunc 164 args).run Try.prog w = .ok (.enter 164 args) w := enters_of Try.func164 (by kernel_rfl) rfl
theorem Try.en165 : ∀ args w, (callFunc 165 args).run Try.prog w = .ok (.enter 165 args) w := enters_of Try.func165 (by kernel_rfl) rfl
theorem Try.en166 : ∀ args w, (callFunc 166 args).run Try.prog w = .ok (.enter 166 args) w := enters_of Try.func166 (by kernel_rfl) rfl
theorem Try.en167 : ∀ args w, (callFunc 167 args).run Try.prog w = .ok (.enter 167 args) w := enters_of Try.func167 (by kernel_rfl) rfl
theorem Try.en168 : ∀ args w, (callFunc 168 args).run Try.prog w = .ok (.enter 168 args) w := enters_of Try.func168 (by kernel_rfl) rfl
theorem Try.en169 : ∀ args w, (callFunc 169 args).run Try.prog w = .ok (.enter 169 args) w := enters_of Try.func169 (by kernel_rfl) rfl
theorem Try.en170 : ∀ args w, (callFunc 170 args).run Try.prog w = .ok (.enter 170 args) w := enters_of Try.func170 (by kernel_rfl) rfl
theorem Try.en171 : ∀ args w, (callFunc 171 args).run Try.prog w = .ok (.enter 171 args) w := enters_of Try.func171 (by kernel_rfl) rfl
theorem Try.en172 : ∀ args w, (callFunc 172 args).run Try.prog w = .ok (.enter 172 args) w := enters_of Try.func172 (by kernel_rfl) rfl
theorem Try.en173 : ∀ args w, (callFunc 173 args).run Try.prog w = .ok (.enter 173 args) w := enters_of Try.func173 (by kernel_rfl) rfl
theorem Try.en174 : ∀ args w, (callFunc 174 args).run Try.prog w = .ok (.enter 174 args) w := enters_of Try.func174 (by kernel_rfl) rfl
theorem Try.en175 : ∀ args w, (callFunc 175 args).run Try.prog w = .ok (.enter 175 args) w := enters_of Try.func175 (by kernel_rfl) rfl
theorem Try.en176 : ∀ args w, (callFunc 176 args).run Try.prog w = .ok (.enter 176 args) w := enters_of Try.func176 (by kernel_rfl) rfl
theorem Try.en177 : ∀ args w, (callFunc 177 args).run Try.prog w = .ok (.enter 177 args) w := enters_of Try.func177 (by kernel_rfl) rfl
theorem Try.en178 : ∀ args w, (callFunc 178 args).run Try.prog w = .ok (.enter 178 args) w := enters_of Try.func178 (by kernel_rfl) rfl
theorem Try.en179 : ∀ args w, (callFunc 179 args).run Try.prog w = .ok (.enter 179 args) w := enters_of Try.func179 (by kernel_rfl) rfl
theorem Try.en180 : ∀ args w, (callFunc 180 args).run Try.prog w = .ok (.enter 180 args) w := enters_of Try.func180 (by kernel_rfl) rfl
theorem Try.en181 : ∀ args w, (callFunc 181 args).run Try.prog w = .ok (.enter 181 args) w := enters_of Try.func181 (by kernel_rfl) rfl
theorem Try.en182 : ∀ args w, (callFunc 182 args).run Try.prog w = .ok (.enter 182 args) w := enters_of Try.func182 (by kernel_rfl) rfl
theorem Try.en183 : ∀ args w, (callFunc 183 args).run Try.prog w = .ok (.enter 183 args) w := enters_of Try.func183 (by kernel_rfl) rfl
theorem Try.en184 : ∀ args w, (callFunc 184 args).run Try.prog w = .ok (.enter 184 args) w := enters_of Try.func184 (by kernel_rfl) rfl
end Go.Proofs
