/-
  ArenaLive: pieces (0) of the run of its closed call.
-/
import Derived.Test.YtlpkejklejaejaaArenaLiveS0
set_option maxRecDepth 100000
namespace Go.Proofs.Ytlpkejklejaejaa
open Go.RowKit Ab
theorem al0 : killX [0, 11, 19, 27, 17, 13, 21, 2, 4, 8, 16, 20, 6, 10, 26, 14] (callRun Try.prog noK 0 12000 5 [] ⟨0, .nil⟩) = .next alF0 alC0 alH0 := by kernel_rfl
theorem al1 : killX [31, 63, 127, 255, 191, 95, 287, 223, 47, 79, 143, 271, 207, 111, 175, 239, 39, 71, 135, 263, 199, 103, 167, 295, 231, 55, 87, 151, 279, 215, 119, 183, 247, 35, 67, 131, 259, 195, 99, 291, 227, 51, 83, 147, 275, 211, 115, 243, 43, 75, 139, 267, 203, 107, 171, 235, 59, 91, 155, 283, 219, 123, 187, 251, 33, 65, 129, 257, 193, 97, 289, 225, 49, 81, 145, 273, 209, 113, 241, 25, 41, 73, 137, 265, 201, 105, 169, 297, 233, 57, 89, 153, 281, 217, 121, 249, 37, 69, 133, 261, 197, 101, 293, 229, 53, 85, 149, 277, 213, 117, 181, 245, 29, 45, 77, 141, 269, 205, 109, 173, 237, 61, 93, 157, 285, 221, 125, 253, 32, 168, 152, 184, 36, 28, 156, 34, 42, 170, 154, 38, 166, 30, 158, 190] (runF 12180 Try.prog noK 0 alF0 alC0 alH0) = .next alF1 alC1 alH1 := by kernel_rfl
theorem al2 : killX [319, 303, 179, 299, 315, 337, 305, 329, 185, 333, 301, 189, 317, 320, 304, 324, 180, 332, 300, 316, 322, 178, 306, 186, 314, 182, 334, 302, 318] (runF 12460 Try.prog noK 0 alF1 alC1 alH1) = .next alF2 alC2 alH2 := by kernel_rfl
end Go.Proofs.Ytlpkejklejaejaa
