/- table.Find, walked. -/
import Derived.Test.YtmjibpjnhehnnaaTt
import Derived.WalkLawsBesides
namespace Go.Proofs.Ytmjibpjnhehnnaa
open Go.RowKit
attribute [local go_sem ↓] Go.wp_at_zero Go.wp_at_succ

theorem toList_ne {a b : ByteArray} (h : a ≠ b) : ¬ a.toList = b.toList := by
  intro e
  rw [ByteArray.toList_eq, ByteArray.toList_eq] at e
  exact h (ByteArray.ext (Array.toList_inj.1 e))
set_option maxRecDepth 100000 in
set_option maxHeartbeats 1000000 in
theorem find_any (w : World) (b s m : Nat) (g : Option Nat) (l : List Tk.Fd) (x y : ByteArray) (r : Nat × Bool) (h : Tab w b g l s m) (hr : Tk.find (x, y) (Tk.all l) 0 0 = r) (hl : l.length ≤ 3000) :
    Calls Try.prog 50 #[.pointer (some ⟨b, 0, none⟩), .agg #[.string x, .string y]] w fun e w' => e = .returned (.tuple #[.int .i64 (r.1 : Int), .bool r.2]) ∧ Below w.heap.size w w' := by
  have hB : Below w.heap.size w (w.alloc (.cells #[.string x, .string y] 57)) := (Below.refl _ _).alloc (Nat.le_refl _) _
  have h1 := h.below hB
  have hfz := heap_alloc_new w (.cells #[.string x, .string y] 57)
  have hal := Tk.all_length l
  have hw61 : IntKind.i64.wrap (61 + (l.length : Int)) = ((61 + l.length : Nat) : Int) := by rw [IntWalk.i64_in _ (by omega)]; omega
  have HAT := Lib.hid (fun k (hk : k < (Tk.all l).length) => at_here (Tk.all l) k hk)
  have HST := Lib.hid (fun i n (hk : i < (Tk.all l).length) => Tk.find_step (x, y) (Tk.all l) i n hk)
  have HEN := Lib.hid (fun i n (hk : (Tk.all l).length ≤ i) => Tk.find_end (x, y) (Tk.all l) i n hk)
  go_enter Try.func50, Try.ntmps50
  go_upto_region 1 with fail
  generalize w.alloc (.cells #[.string x, .string y] 57) = w1 at *
  generalize hBB : w.heap.size = B at *
  have HBB := Lib.hid hBB
  have HFZ := Lib.hid hfz
  clear hBB hfz h
  go_wp2_with fail
  refine (len_f w1 b _ _ g (l.map encF) (l.length : Int) (by rw [List.length_map]) h1).mono ?_
  rintro e w2 ⟨rfl, rfl⟩
  have HAL := Lib.hid hal
  clear hal
  generalize hn : 61 + l.length = n at *
  have hnI : (n : Int) ≤ 4000 := by omega
  have HN := Lib.hid hn
  clear hn
  have HR : Hid (Tk.find (x, y) ((Tk.all l).drop 0) 0 0 = r) := hr
  clear hr
  generalize hall : Tk.all l = al at *
  have HALL := Lib.hid hall
  clear hall
  go_wp2
  go_loopw [6, 17] (fun nm i wr => ∃ k named : Nat, k ≤ n ∧ named ≤ k ∧ i = .int .i64 (k : Int) ∧ nm = .int .i64 (named : Int) ∧ Tk.find (x, y) (al.drop k) k named = r ∧ Below w1.heap.size w1 wr) (fun _ i _ => n - (intOf i).toNat)
  case atStart => exact ⟨0, 0, Nat.zero_le _, Nat.le_refl _, rfl, rfl, HR.out, Below.refl _ _⟩
  case round =>
    obtain ⟨k, named, hk, hnk, rfl, rfl, hfd, hBr⟩ := hrel
    by_cases hlt : k < n
    · have hw1 : IntKind.i64.wrap ((k : Int) + 1) = ((k + 1 : Nat) : Int) := by rw [IntWalk.i64_in _ (by omega)]; omega
      have hkI : (k : Int) < (n : Int) := by omega
      rw [HST.out k named (by rw [HAL.out]; exact hlt)] at hfd
      have hTr := h1.below hBr
      have hat := HAT.out k (by rw [HAL.out]; exact hlt)
      obtain ⟨⟨gx, gy⟩, hg⟩ : ∃ p, al.getD k Tk.nil = p := ⟨_, rfl⟩
      rw [hg] at hat hfd
      have HA := Lib.hid (fun w (h : Tab w b g l s m) => at_any w b s m g l ((k + 1 : Nat) : Int) (gx, gy) true h (by rw [HALL.out]; exact hat) (by omega))
      have HFD := Lib.hid hfd
      clear hat hg hfd
      obtain ⟨k1, hk1⟩ : ∃ k1, k1 = k + 1 := ⟨_, rfl⟩
      rw [← hk1] at hw1 HA HFD
      have HK1 := Lib.hid hk1
      clear hk1
      go_wp2_with fail
      refine (HA.out _ hTr).mono ?_
      rintro e w2 ⟨rfl, hb2⟩
      have hB2 : Below w1.heap.size w1 w2 := hBr.trans (hb2.mono hBr.size)
      go_upto_region 8 with fail
      have hB3 : Below w1.heap.size w1 (w2.alloc (.cells #[.string gx, .string gy] 57)) := hB2.alloc hB2.size _
      have hbx := heap_alloc_new w2 (.cells #[.string gx, .string gy] 57)
      have hfz3 := (hB3.block B (heap_lt HFZ.out)).trans HFZ.out
      generalize w2.alloc (.cells #[.string gx, .string gy] 57) = w3 at *
      generalize w2.heap.size = B3 at *
      have hb0 : w3.cell? ⟨B3, 0, none⟩ = some (.string gx) := cell_of_blk hbx 0 _ rfl
      have hb1 : w3.cell? ⟨B3, 1, none⟩ = some (.string gy) := cell_of_blk hbx 1 _ rfl
      have hc0 : w3.cell? ⟨B, 0, none⟩ = some (.string x) := cell_of_blk hfz3 0 _ rfl
      have hc1 : w3.cell? ⟨B, 1, none⟩ = some (.string y) := cell_of_blk hfz3 1 _ rfl
      clear hbx hfz3
      by_cases hx : gx = x
      · subst hx
        by_cases hy : gy = y
        · subst hy
          have hr := HFD.out
          rw [if_pos rfl] at hr
          subst hr
          go_wp2
          go_ret2
          exact ⟨rfl, by rw [HBB.out]; exact hB.trans (hB3.mono (by have := hB.size; have := HBB.out; omega))⟩
        · have hyl := toList_ne hy
          have hyb : (gy.toList == y.toList) = false := by rw [beq_eq_false_iff_ne]; exact hyl
          have hr := HFD.out
          rw [if_neg (by intro e; injection e with _ e; exact hy e)] at hr
          have HY := Lib.hid hy
          clear hy
          by_cases hz : named = 0
          · have hzI : ((named : Int) == 0) = true := by rw [beq_iff_eq]; omega
            rw [if_pos ⟨hz, rfl⟩] at hr
            have HR2 := Lib.hid hr
            have HZ := Lib.hid hz
            clear hr hz
            go_wp2
            go_roundw
            case measure => have := HK1.out; simp [intOf] <;> omega
            case rel => exact ⟨k1, k1, by have := HK1.out; omega, Nat.le_refl _, by first | rfl | (have := HK1.out; exact congrArg (Value.int .i64) (by omega)), by first | rfl | (have := HK1.out; exact congrArg (Value.int .i64) (by omega)), HR2.out, hB3⟩
          · have hzI : ((named : Int) == 0) = false := by rw [beq_eq_false_iff_ne]; omega
            rw [if_neg (fun h => hz h.1)] at hr
            have HR2 := Lib.hid hr
            have HZ := Lib.hid hz
            clear hr hz
            go_wp2
            go_roundw
            case measure => have := HK1.out; simp [intOf] <;> omega
            case rel => exact ⟨k1, named, by have := HK1.out; omega, by have := HK1.out; omega, by first | rfl | (have := HK1.out; exact congrArg (Value.int .i64) (by omega)), rfl, HR2.out, hB3⟩
      · have hxl := toList_ne hx
        have hxb : (gx.toList == x.toList) = false := by rw [beq_eq_false_iff_ne]; exact hxl
        have hr := HFD.out
        rw [if_neg (by intro e; injection e with e; exact hx e), if_neg (fun h => hx h.2)] at hr
        have HR2 := Lib.hid hr
        have HX := Lib.hid hx
        clear hr hx
        by_cases hz : named = 0
        · have hzI : ((named : Int) == 0) = true := by rw [beq_iff_eq]; omega
          have HZ := Lib.hid hz
          clear hz
          go_wp2
          go_roundw
          case measure => have := HK1.out; simp [intOf] <;> omega
          case rel => exact ⟨k1, named, by have := HK1.out; omega, by have := HK1.out; omega, by first | rfl | (have := HK1.out; exact congrArg (Value.int .i64) (by omega)), rfl, HR2.out, hB3⟩
        · have hzI : ((named : Int) == 0) = false := by rw [beq_eq_false_iff_ne]; omega
          have HZ := Lib.hid hz
          clear hz
          go_wp2
          go_roundw
          case measure => have := HK1.out; simp [intOf] <;> omega
          case rel => exact ⟨k1, named, by have := HK1.out; omega, by have := HK1.out; omega, by first | rfl | (have := HK1.out; exact congrArg (Value.int .i64) (by omega)), rfl, HR2.out, hB3⟩
    · obtain rfl : k = n := by omega
      rw [HEN.out k named (by rw [HAL.out]; exact Nat.le_refl _)] at hfd
      subst hfd
      go_wp2
      go_ret2
      exact ⟨rfl, by rw [HBB.out]; exact hB.trans (hBr.mono (by have := hB.size; have := HBB.out; omega))⟩
end Go.Proofs.Ytmjibpjnhehnnaa
