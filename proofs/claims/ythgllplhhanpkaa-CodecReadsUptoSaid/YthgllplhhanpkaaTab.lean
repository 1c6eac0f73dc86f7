/-
  What the steps look at of this program's types. Written by a program.
-/
import Derived.Test.YthgllplhhanpkaaRows
import Derived.Test.YthgllplhhanpkaaEr
import Derived.KernelRfl
namespace Go.Proofs.Ythgllplhhanpkaa
open Go.En
def T : Tab := {
  kinds := [(2, .int .i64), (3, .int .i64), (4, .bool), (5, .int .u8), (6, .int .u8), (9, .str), (10, .str), (11, .str), (12, .int .u64), (15, .ptr), (16, .ptr), (17, .ptr), (21, .int .i32), (22, .slice), (23, .int .u64), (31, .int .u32), (34, .int .i64), (37, .ptr), (48, .slice), (63, .int .u64), (74, .int .u8), (75, .int .u8), (77, .ptr), (78, .int .i32), (79, .int .i32)],
  flds := [(448, 0), (449, 1), (450, 2), (451, 3), (512, 0), (513, 1), (514, 2), (515, 3), (832, 0), (833, 1), (896, 0), (897, 1), (1152, 0), (1216, 0), (3136, 0), (3137, 1), (3138, 2), (3200, 0), (3201, 1), (3202, 2), (3264, 0), (3265, 1), (3266, 2), (3328, 0), (3329, 1), (3330, 2), (4096, 0), (4097, 1), (4160, 0), (4161, 1), (4416, 0), (4417, 1), (4418, 2), (4419, 3), (4480, 0), (4481, 1), (4482, 2), (4483, 3), (5120, 0), (5121, 1), (5122, 2), (5123, 3), (5124, 4), (5125, 5), (5126, 6), (5127, 7), (5128, 8), (5129, 9), (5130, 10), (5184, 0), (5185, 1), (5186, 2), (5187, 3), (5188, 4), (5189, 5), (5190, 6), (5191, 7), (5192, 8), (5193, 9), (5194, 10)],
  sls := [(22, ⟨5, 1, 1, .int .u8 0⟩),
    (48, ⟨52, 3, 24, .agg #[.int .i64 0, .int .i64 0, .int .u64 0]⟩)] }
theorem hT : TabOK Try.prog T where
  kinds := by kernel_rfl
  flds := by kernel_rfl
  sls := by kernel_rfl
end Go.Proofs.Ythgllplhhanpkaa
