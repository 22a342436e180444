/- The code of texts as plain data: the lengths, the symbols of each length, the first code of each length, the code of each symbol; facts that the kernel reckons. No program in sight. -/
namespace Go.Proofs.Ytmjibpjnhehnnaa.Hf

def lens : List Nat := [
  13, 23, 28, 28, 28, 28, 28, 28, 28, 24, 30, 28, 28, 30, 28, 28, 28, 28, 28, 28, 28, 28, 30, 28, 28, 28, 28, 28, 28, 28, 28, 28,
  6, 10, 10, 12, 13, 6, 8, 11, 10, 10, 8, 11, 8, 6, 6, 6, 5, 5, 5, 6, 6, 6, 6, 6, 6, 6, 7, 8, 15, 6, 12, 10,
  13, 6, 7, 7, 7, 7, 7, 7, 7, 7, 7, 7, 7, 7, 7, 7, 7, 7, 7, 7, 7, 7, 7, 7, 8, 7, 8, 13, 19, 13, 14, 6,
  15, 5, 6, 5, 6, 5, 6, 6, 6, 5, 7, 7, 6, 6, 6, 5, 6, 7, 6, 5, 5, 6, 7, 7, 7, 7, 7, 15, 11, 14, 13, 28,
  20, 22, 20, 20, 22, 22, 22, 23, 22, 23, 23, 23, 23, 23, 24, 23, 24, 24, 22, 23, 24, 23, 23, 23, 23, 21, 22, 23, 22, 23, 23, 24,
  22, 21, 20, 22, 22, 23, 23, 21, 23, 22, 22, 24, 21, 22, 23, 23, 21, 21, 22, 21, 23, 22, 23, 23, 20, 22, 22, 22, 23, 22, 22, 23,
  26, 26, 20, 19, 22, 23, 22, 25, 26, 26, 26, 27, 27, 26, 24, 25, 19, 21, 26, 27, 27, 26, 27, 24, 21, 21, 26, 26, 28, 27, 27, 27,
  20, 24, 20, 21, 22, 21, 21, 23, 22, 22, 25, 25, 24, 24, 26, 23, 26, 27, 26, 26, 27, 27, 27, 27, 27, 28, 27, 27, 27, 27, 27, 26,
  30]
def len (s : Nat) : Nat := lens.getD s 0
/-- The symbols of each length, in order. -/
def havs : List (List Nat) := [[], [], [], [], [], [48, 49, 50, 97, 99, 101, 105, 111, 115, 116], [32, 37, 45, 46, 47, 51, 52, 53, 54, 55, 56, 57, 61, 65, 95, 98, 100, 102, 103, 104, 108, 109, 110, 112, 114, 117], [58, 66, 67, 68, 69, 70, 71, 72, 73, 74, 75, 76, 77, 78, 79, 80, 81, 82, 83, 84, 85, 86, 87, 89, 106, 107, 113, 118, 119, 120, 121, 122], [38, 42, 44, 59, 88, 90], [], [33, 34, 40, 41, 63], [39, 43, 124], [35, 62], [0, 36, 64, 91, 93, 126], [94, 125], [60, 96, 123], [], [], [], [92, 195, 208], [128, 130, 131, 162, 184, 194, 224, 226], [153, 161, 167, 172, 176, 177, 179, 209, 216, 217, 227, 229, 230], [129, 132, 133, 134, 136, 146, 154, 156, 160, 163, 164, 169, 170, 173, 178, 181, 185, 186, 187, 189, 190, 196, 198, 228, 232, 233], [1, 135, 137, 138, 139, 140, 141, 143, 147, 149, 150, 151, 152, 155, 157, 158, 165, 166, 168, 174, 175, 180, 182, 183, 188, 191, 197, 231, 239], [9, 142, 144, 145, 148, 159, 171, 206, 215, 225, 236, 237], [199, 207, 234, 235], [192, 193, 200, 201, 202, 205, 210, 213, 218, 219, 238, 240, 242, 243, 255], [203, 204, 211, 212, 214, 221, 222, 223, 241, 244, 245, 246, 247, 248, 250, 251, 252, 253, 254], [2, 3, 4, 5, 6, 7, 8, 11, 12, 14, 15, 16, 17, 18, 19, 20, 21, 23, 24, 25, 26, 27, 28, 29, 30, 31, 127, 220, 249], [], [10, 13, 22, 256]]
def hav (n : Nat) : List Nat := havs.getD n []
def cnt (n : Nat) : Nat := (hav n).length
/-- The first code of each length. -/
def fsts : List Nat := [0, 0, 0, 0, 0, 0, 20, 92, 248, 508, 1016, 2042, 4090, 8184, 16380, 32764, 65534, 131068, 262136, 524272, 1048550, 2097116, 4194258, 8388568, 16777194, 33554412, 67108832, 134217694, 268435426, 536870910, 1073741820]
def fst (n : Nat) : Nat := fsts.getD n 0
/-- Its code. -/
def code (s : Nat) : Nat := fst (len s) + (hav (len s)).idxOf s
/-- The symbol whose code is v, in n bits. -/
def sym (n v : Nat) : Option Nat := if fst n ≤ v then (hav n)[v - fst n]? else none

theorem lens_length : lens.length = 257 := by decide +kernel
theorem fsts_length : fsts.length = 31 := by decide
theorem havs_length : havs.length = 31 := by decide
theorem hav_eq : ∀ n, n < 31 → hav n = (List.range 257).filter fun s => len s == n := by decide +kernel
theorem fst_zero : fst 0 = 0 := by decide
theorem fst_succ : ∀ n, n < 30 → fst (n + 1) = 2 * (fst n + cnt n) := by decide +kernel
theorem full : fst 30 + cnt 30 = 2 ^ 30 := by decide +kernel
theorem len_bd : ∀ s, s < 257 → 5 ≤ len s ∧ len s ≤ 30 := by decide +kernel
theorem hav_small : ∀ n, n < 5 → hav n = [] := by decide +kernel
theorem end_len : len 256 = 30 := by decide
theorem code_lt : ∀ s, s < 257 → code s < 2 ^ len s := by decide +kernel
/-- On the way to a symbol's code no other is met. -/
theorem way : ∀ s, s < 257 → ∀ k, k < len s → sym k (code s / 2 ^ (len s - k)) = none := by decide +kernel
theorem met : ∀ s, s < 257 → sym (len s) (code s) = some s := by decide +kernel
/-- Ones alone are no symbol, as long as they are few. -/
theorem ones : ∀ k, k < 30 → sym k (2 ^ k - 1) = none := by decide +kernel
theorem hav_lt : ∀ n, n < 31 → ∀ s ∈ hav n, s < 257 := by decide +kernel
/-- What is met is the symbol of that code. -/
theorem sym_some_all : ∀ n, n < 31 → ∀ k, k < cnt n → len ((hav n).getD k 0) = n ∧ code ((hav n).getD k 0) = fst n + k := by decide +kernel
end Go.Proofs.Ytmjibpjnhehnnaa.Hf
