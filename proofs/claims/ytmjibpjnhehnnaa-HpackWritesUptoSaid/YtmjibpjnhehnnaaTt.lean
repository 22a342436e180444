/- The functions of table.Table, walked: what they leave and answer is the plain law's. -/
import Derived.Test.YtmjibpjnhehnnaaTs
import Derived.Deep.RegionHeld3
import Derived.Deep.RegionLaw
namespace Go.Proofs.Ytmjibpjnhehnnaa
open Go.RowKit
attribute [local go_sem ↓] Go.wp_at_zero Go.wp_at_succ

/-- A table whose dynamic part is l, of size s, with room m. -/
def Tab (w : World) (b : Nat) (g : Option Nat) (l : List Tk.Fd) (s m : Nat) : Prop := Ring w b 101 57 2 [.int .i64 (s : Int), .int .i64 (m : Int)] g (l.map encF)
theorem Tab.size {w : World} {b s m : Nat} {g : Option Nat} {l : List Tk.Fd} (h : Tab w b g l s m) : w.cell? ⟨b, 3, none⟩ = some (.int .i64 (s : Int)) ∧ w.frozen? ⟨b, 3, none⟩ = false := Ring.behind h 0 _ rfl
theorem Tab.most {w : World} {b s m : Nat} {g : Option Nat} {l : List Tk.Fd} (h : Tab w b g l s m) : w.cell? ⟨b, 4, none⟩ = some (.int .i64 (m : Int)) ∧ w.frozen? ⟨b, 4, none⟩ = false := Ring.behind h 1 _ rfl
theorem Tab.setSize {w : World} {b s m : Nat} {g : Option Nat} {l : List Tk.Fd} (h : Tab w b g l s m) (s' : Nat) : Tab (w.setCell ⟨b, 3, none⟩ (.int .i64 (s' : Int))) b g l s' m := Ring.setRest h 0 _
theorem Tab.setMost {w : World} {b s m : Nat} {g : Option Nat} {l : List Tk.Fd} (h : Tab w b g l s m) (m' : Nat) : Tab (w.setCell ⟨b, 4, none⟩ (.int .i64 (m' : Int))) b g l s m' := Ring.setRest h 1 _
theorem Tab.only {S : Nat → Prop} {w w' : World} {b s m : Nat} {g : Option Nat} {l : List Tk.Fd} (h : Tab w b g l s m) (ho : Only S w w') (hb : ¬ S b) (hg : ∀ k, g = some k → ¬ S k) : Tab w' b g l s m := Ring.only h ho hb hg
theorem Tab.below {w w' : World} {b s m : Nat} {g : Option Nat} {l : List Tk.Fd} (h : Tab w b g l s m) (hb : Below w.heap.size w w') : Tab w' b g l s m := Ring.below h hb
theorem Tab.lt {w : World} {b s m : Nat} {g : Option Nat} {l : List Tk.Fd} (h : Tab w b g l s m) : b < w.heap.size ∧ ∀ k, g = some k → k < w.heap.size ∧ k ≠ b := Ring.lt h

set_option maxRecDepth 100000 in
theorem new_bad (w : World) (n : Int) (h : n < 0 ∨ 65536 < n) : Calls Try.prog 41 #[.int .i64 n] w fun e w' => e = .returned (.tuple #[.pointer none, .int .i64 5]) ∧ w = w' := by
  by_cases h1 : n < 0
  · go_enter Try.func41, Try.ntmps41
    go_wp2
    go_ret2
    exact ⟨rfl, rfl⟩
  · have h2 : 65536 < n := by omega
    go_enter Try.func41, Try.ntmps41
    go_wp2
    go_ret2
    exact ⟨rfl, rfl⟩
set_option maxRecDepth 100000 in
theorem new_good (w : World) (n : Nat) (h : n ≤ 65536) : Calls Try.prog 41 #[.int .i64 (n : Int)] w fun e w' => e = .returned (.tuple #[.pointer (some ⟨w.heap.size, 0, none⟩), .int .i64 0]) ∧ Below w.heap.size w w' ∧ w'.heap.size = w.heap.size + 1 ∧ Tab w' w.heap.size none [] 0 n := by
  have h1 : (n : Int) ≤ 65536 := by omega
  clear h
  go_enter Try.func41, Try.ntmps41
  go_wp2
  go_ret2
  exact ⟨rfl, (Below.refl _ _).alloc (Nat.le_refl _) _, by simp, .slice none 0 0, 0, 0, rfl, ⟨heap_alloc_new w _, Nat.le_refl _, by omega, .inl ⟨rfl, rfl, rfl⟩⟩⟩

/-- The size that the program has noted. -/
def noted (b : Nat) (w : World) : Nat := match w.cell? ⟨b, 3, none⟩ with
  | some (.int _ n) => n.toNat
  | _ => 0
theorem Tab.noted {w : World} {b s m : Nat} {g : Option Nat} {l : List Tk.Fd} (h : Tab w b g l s m) : noted b w = s := by
  unfold Go.Proofs.Ytmjibpjnhehnnaa.noted
  rw [h.size.1]
  simp
/-- What shrinking leaves. -/
def Shrunk (w : World) (b : Nat) (g : Option Nat) (l : List Tk.Fd) (m : Nat) (w' : World) : Prop := Tab w' b g l (Tk.sum l) m ∧ Only (RS b g) w w'
theorem count_le {l : List Tk.Fd} {n : Nat} (h : Tk.sum l ≤ n) : 32 * l.length ≤ n := Nat.le_trans (Tk.sum_ge l) h
theorem fits_of_sum {l : List Tk.Fd} {f : Tk.Fd} {n : Nat} (h : Tk.sum l ≤ n) (hn : n ≤ 65536) (hf : f ∈ l) : Fits f := by
  have := Tk.sum_mem hf
  unfold Tk.wt at this
  exact ⟨by omega, by omega⟩
set_option maxRecDepth 100000 in
set_option maxHeartbeats 1000000 in
theorem shrink_any (w : World) (b : Nat) (g : Option Nat) (l : List Tk.Fd) (m most : Nat) (h : Tab w b g l (Tk.sum l) m) (hs : Tk.sum l ≤ 65536) :
    Calls Try.prog 55 #[.pointer (some ⟨b, 0, none⟩), .int .i64 (most : Int)] w fun e w' => e = .returned (.tuple #[]) ∧ Shrunk w b g (Tk.shr most l) m w' := by
  go_enter Try.func55, Try.ntmps55
  go_wp2
  go_loopw [] (fun wr => ∃ l1 : List Tk.Fd, Tk.shr most l1 = Tk.shr most l ∧ Tab wr b g l1 (Tk.sum l1) m ∧ Only (RS b g) w wr ∧ Tk.sum l1 ≤ 65536) (fun wr => noted b wr)
  case atStart => exact ⟨l, rfl, h, Only.refl _ _, hs⟩
  case round =>
    obtain ⟨l1, hl1, hT, hO, hs1⟩ := hrel
    obtain ⟨hc3, hf3⟩ := hT.size
    by_cases hle : Tk.sum l1 ≤ most
    · have hleI : ¬ (most : Int) < (Tk.sum l1 : Int) := by omega
      rw [Tk.shr_le hle] at hl1
      have HL1 := Lib.hid hl1
      clear hle hl1
      go_wp2
      go_end0
      rw [← HL1.out]
      exact ⟨rfl, hT, hO⟩
    · have hleI : (most : Int) < (Tk.sum l1 : Int) := by omega
      have hne : l1 ≠ [] := by intro e; subst e; exact hle (Nat.zero_le _)
      rw [Tk.shr_gt hle] at hl1
      have hsd := Tk.sum_dropLast l1 hne
      have hcat := List.dropLast_concat_getLast hne
      have hwt := fits_of_sum hs1 (Nat.le_refl _) (List.getLast_mem hne)
      generalize l1.getLast hne = f at *
      have hn := hT.noted
      obtain ⟨l2, hl2⟩ : ∃ l2, l1.dropLast = l2 := ⟨_, rfl⟩
      rw [hl2] at hl1 hsd hcat
      have hsum2 : Tk.sum l2 ≤ 65536 := by omega
      have hT' : Ring wr b 101 57 2 [.int .i64 (Tk.sum l1 : Int), .int .i64 (m : Int)] g (l2.map encF ++ [([.string f.1, .string f.2] : List Value)]) := by
        have h1 : Ring wr b _ _ 2 _ g (l1.map encF) := hT
        rw [← hcat, List.map_append] at h1
        rw [hcat] at h1
        exact h1
      have hcnt := count_le hsum2
      have HPOP := Lib.hid (pop_somef wr b _ _ g (l2.map encF) f.1 f.2 hT' (by rw [List.length_map]; omega))
      have HL1 := Lib.hid hl1
      have HSD := Lib.hid hsd
      have HN := Lib.hid hn
      generalize Tk.sum l1 = s1 at *
      clear hl1 hsd hcat hl2 hT' hne hle hT hn
      obtain ⟨x, y⟩ := f
      simp only at HPOP
      go_wp2_with fail
      refine HPOP.out.mono ?_
      rintro e w2 ⟨rfl, hR2, hO2⟩
      go_upto_region 3 with fail
      have hB3 : Below w2.heap.size w2 (w2.alloc (.cells #[.string x, .string y] 57)) := (Below.refl _ _).alloc (Nat.le_refl _) _
      have hT3 : Tab (w2.alloc (.cells #[.string x, .string y] 57)) b g l2 s1 m := Ring.below hR2 hB3
      have hbx := heap_alloc_new w2 (.cells #[.string x, .string y] 57)
      have hO3 : Only (RS b g) wr (w2.alloc (.cells #[.string x, .string y] 57)) := hO2.alloc _
      have hbl := hR2.lt
      clear hR2 hO2 hB3 HPOP
      generalize w2.alloc (.cells #[.string x, .string y] 57) = w3 at *
      generalize w2.heap.size = B at *
      have hs3 : w3.cell? ⟨b, 3, none⟩ = some (.int .i64 (s1 : Int)) := hT3.size.1
      have hb0 : w3.cell? ⟨B, 0, none⟩ = some (.string x) := cell_of_blk hbx 0 _ rfl
      have hb1 : w3.cell? ⟨B, 1, none⟩ = some (.string y) := cell_of_blk hbx 1 _ rfl
      have HBX := Lib.hid hbx
      have hsub : IntKind.i64.wrap ((s1 : Int) - (Tk.wt (x, y) : Int)) = (Tk.sum l2 : Int) := by have := HSD.out; rw [IntWalk.i64_in _ (by omega)]; omega
      clear hbx hc3 hf3
      go_region_law (first | (go_simp; go_at_call 53; refine (weight_any _ x y hwt).mono ?_; rintro e w4 ⟨rfl, hb4⟩; have hT4 := hT3.below (below_undrew hb4); have hs4 : w4.cell? ⟨b, 3, none⟩ = some (.int .i64 (s1 : Int)) := hT4.size.1; have hf4 : w4.frozen? ⟨b, 3, none⟩ = false := hT4.size.2; have hO4 := hO3.then (Only.of_below (RS b g) (below_undrew hb4)) (fun _ _ h => h) (fun _ _ h => h)))
      all_goals
        have hT5 := hT4.setSize (Tk.sum l2)
        have hO5 : Only (RS b g) wr (w4.setCell ⟨b, 3, none⟩ (.int .i64 (Tk.sum l2 : Int))) := hO4.setCell (.inr (.inl rfl)) _
        clear hs4 hf4 hs3 hb0 hb1
        go_wp2
        go_roundw
        case measure =>
          have := HSD.out
          have := HN.out
          rw [hT5.noted]
          unfold Tk.wt at *
          omega
        case rel => exact ⟨l2, HL1.out, hT5, hO.trans hO5, hsum2⟩
/-- What laying in leaves. -/
def Added (w : World) (b : Nat) (g : Option Nat) (l : List Tk.Fd) (m : Nat) (w' : World) : Prop := ∃ g', Tab w' b g' l (Tk.sum l) m ∧ Only (RS b g) w w' ∧ (g' = g ∨ ∃ k, g' = some k ∧ w.heap.size ≤ k)
theorem max0_as (a : Int) (c : Nat) (h : (max 0 a).toNat = c) (ts : Array TypeId) (t : TypeId) (w : World) : (Builtin.max_ ts t #[.int .i64 0, .int .i64 a]).run Try.prog w = .ok (.int .i64 (c : Int)) w := by
  subst h
  simp [Builtin.max_, Builtin.max2]
  split <;> omega
set_option maxRecDepth 100000 in
set_option maxHeartbeats 1000000 in
theorem add_any (w : World) (b : Nat) (g : Option Nat) (l : List Tk.Fd) (m : Nat) (x y : ByteArray) (h : Tab w b g l (Tk.sum l) m) (hs : Tk.sum l ≤ m) (hm : m ≤ 65536) (hf : Fits (x, y)) :
    Calls Try.prog 54 #[.pointer (some ⟨b, 0, none⟩), .agg #[.string x, .string y]] w fun e w' => e = .returned (.tuple #[]) ∧ Added w b g (Tk.add m (x, y) l) m w' := by
  have hgl := h.lt
  have hW : Tk.wt (x, y) ≤ 281474976710688 := by obtain ⟨h1, h2⟩ := hf; unfold Tk.wt; simp only at *; omega
  have HWT := Lib.hid (fun w => weight_any w x y hf)
  go_enter Try.func54, Try.ntmps54
  go_upto_region 2 with fail
  have hB0 : Below w.heap.size w (w.alloc (.cells #[.string x, .string y] 57)) := (Below.refl _ _).alloc (Nat.le_refl _) _
  have h1 := h.below hB0
  have hbox := heap_alloc_new w (.cells #[.string x, .string y] 57)
  generalize w.alloc (.cells #[.string x, .string y] 57) = w1 at *
  generalize hB : w.heap.size = B at *
  have HBE := Lib.hid hB
  have hb0 : w1.cell? ⟨B, 0, none⟩ = some (.string x) := cell_of_blk hbox 0 _ rfl
  have hb1 : w1.cell? ⟨B, 1, none⟩ = some (.string y) := cell_of_blk hbox 1 _ rfl
  have HBOX := Lib.hid hbox
  clear h hB hbox
  go_wp2_with fail
  refine (HWT.out _).mono ?_
  rintro e w2 ⟨rfl, hb2⟩
  clear hb0 hb1
  have h2 := h1.below hb2
  have hbx2 : w2.heap[B]? = _ := (hb2.block B (heap_lt HBOX.out)).trans HBOX.out
  have hlt1 := heap_lt HBOX.out
  have hB2 : Below B w w2 := hB0.trans (hb2.mono (by omega))
  have HBX2 := Lib.hid hbx2
  clear hbx2 h1 hB0 hb2
  have hm4 := h2.most.1
  generalize hWW : Tk.wt (x, y) = W at *
  have hsub : IntKind.i64.wrap ((m : Int) - (W : Int)) = (m : Int) - (W : Int) := IntWalk.i64_in _ (by omega)
  have hmx := max0_as ((m : Int) - (W : Int)) (m - W) (by omega)
  go_wp2_with fail
  refine (shrink_any _ b g l m _ h2 (by omega)).mono ?_
  rintro e w3 ⟨rfl, hT3, hO3⟩
  clear hm4 hsub hmx
  have hbx3 : w3.heap[B]? = _ := hO3.block' HBX2.out (by
    rintro (e | e)
    · omega
    · have := (hgl.2 B e).1; omega)
  have HBX3 := Lib.hid hbx3
  have hm4 := hT3.most.1
  have hOw : Only (RS b g) w w3 := (Only.of_below (RS b g) (by rw [HBE.out]; exact hB2)).trans hO3
  have hBw3 : B ≤ w3.heap.size := Nat.le_of_lt (heap_lt hbx3)
  clear hbx3 h2 hO3
  by_cases hle : W ≤ m
  · have hleI : (W : Int) ≤ (m : Int) := by omega
    have hadd : Tk.add m (x, y) l = (x, y) :: Tk.shr (m - W) l := by unfold Tk.add; rw [hWW, if_pos hle]
    have hsm := Tk.shr_sum (m - W) l
    have HADD := Lib.hid hadd
    have HWW := Lib.hid hWW
    clear hadd hWW
    generalize Tk.shr (m - W) l = l1 at *
    have hcnt := count_le hsm
    go_upto_region 5 with fail
    have hb0 : w3.cell? ⟨B, 0, none⟩ = some (.string x) := cell_of_blk HBX3.out 0 _ rfl
    have hb1 : w3.cell? ⟨B, 1, none⟩ = some (.string y) := cell_of_blk HBX3.out 1 _ rfl
    go_still_tail 4, (by kernel_rfl)
    have hTd : Tab w3.drew b g l1 (Tk.sum l1) m := hT3.only ((Only.refl (fun _ => False) w3).drew) id (fun _ _ h => h)
    have hOd : Only (RS b g) w w3.drew := hOw.drew
    have hBd : B ≤ w3.drew.heap.size := hBw3
    change wpList _ _ _ _ _ w3.drew
    generalize w3.drew = w4 at *
    clear hT3 hOw hBw3 hb0 hb1 hm4
    go_wp2_with fail
    refine (push_f _ b _ _ g _ x y hTd (by rw [List.length_map]; omega) (encF_el _)).mono ?_
    rintro e w5 ⟨rfl, g5, hR5, hO5, hg5⟩
    have hT5 : Tab w5 b g5 ((x, y) :: l1) (Tk.sum l1) m := hR5
    obtain ⟨hc3, hf3⟩ := hT5.size
    have hsum : IntKind.i64.wrap ((Tk.sum l1 : Int) + (W : Int)) = ((Tk.sum l1 + W : Nat) : Int) := by rw [IntWalk.i64_in _ (by omega)]; omega
    have hcs : Tk.sum ((x, y) :: l1) = Tk.sum l1 + W := by rw [Tk.sum_cons, HWW.out, Nat.add_comm]
    have hT6 := hT5.setSize (Tk.sum ((x, y) :: l1))
    rw [hcs] at hT6
    have hO6 : Only (RS b g) w (w5.setCell ⟨b, 3, none⟩ (.int .i64 ((Tk.sum l1 + W : Nat) : Int))) := (hOd.trans hO5).setCell (.inr (.inl rfl)) _
    have HCS := Lib.hid hcs
    clear hR5 hT5 hTd hcs
    generalize Tk.sum l1 + W = s6 at *
    generalize Tk.sum l1 = s5 at *
    go_wp2
    go_end0
    refine ⟨rfl, g5, ?_, hO6, ?_⟩
    · rw [HADD.out, HCS.out]; exact hT6
    · rcases hg5 with h | ⟨k, hk, hk2⟩
      · exact .inl h
      · exact .inr ⟨k, hk, by have := HBE.out; omega⟩
  · have hleI : ¬ (W : Int) ≤ (m : Int) := by omega
    have hadd : Tk.add m (x, y) l = [] := by unfold Tk.add; rw [hWW, if_neg hle]
    have h0 : m - W = 0 := by omega
    rw [h0, Tk.shr_zero] at hT3
    have HADD := Lib.hid hadd
    clear hadd h0 hle hWW
    go_wp2
    go_end0
    exact ⟨rfl, g, by rw [HADD.out]; exact hT3, hOw, .inl rfl⟩
set_option maxRecDepth 100000 in
theorem resize_bad (w : World) (b : Nat) (n : Int) (h : n < 0 ∨ 65536 < n) : Calls Try.prog 36 #[.pointer (some ⟨b, 0, none⟩), .int .i64 n] w fun e w' => e = .returned (.int .i64 5) ∧ w = w' := by
  by_cases h1 : n < 0
  · go_enter Try.func36, Try.ntmps36
    go_wp2
    go_ret
    exact ⟨rfl, rfl⟩
  · have h2 : 65536 < n := by omega
    go_enter Try.func36, Try.ntmps36
    go_wp2
    go_ret
    exact ⟨rfl, rfl⟩
set_option maxRecDepth 100000 in
theorem resize_good (w : World) (b : Nat) (g : Option Nat) (l : List Tk.Fd) (m n : Nat) (h : Tab w b g l (Tk.sum l) m) (hs : Tk.sum l ≤ 65536) (hn : n ≤ 65536) :
    Calls Try.prog 36 #[.pointer (some ⟨b, 0, none⟩), .int .i64 (n : Int)] w fun e w' => e = .returned (.int .i64 0) ∧ Shrunk w b g (Tk.shr n l) n w' := by
  obtain ⟨hc4, hf4⟩ := h.most
  have h2 := h.setMost n
  have hO2 : Only (RS b g) w (w.setCell ⟨b, 4, none⟩ (.int .i64 (n : Int))) := (Only.refl _ w).setCell (.inr (.inl rfl)) _
  have hn1 : ¬ (n : Int) < 0 := by omega
  have hn2 : ¬ (65536 : Int) < (n : Int) := by omega
  have HS := Lib.hid hs
  clear h hn hs
  go_enter Try.func36, Try.ntmps36
  go_wp2_with fail
  refine (shrink_any _ b g l n n h2 HS.out).mono ?_
  rintro e w3 ⟨rfl, hT3, hO3⟩
  go_wp2
  go_ret
  exact ⟨rfl, hT3, hO2.trans hO3⟩
set_option maxRecDepth 100000 in
theorem tabsize_any (w : World) (b s m : Nat) (g : Option Nat) (l : List Tk.Fd) (h : Tab w b g l s m) : Calls Try.prog 46 #[.pointer (some ⟨b, 0, none⟩)] w fun e w' => e = .returned (.int .i64 (s : Int)) ∧ w = w' := by
  obtain ⟨hc, _⟩ := h.size
  clear h
  go_enter Try.func46, Try.ntmps46
  go_wp2
  go_ret
  exact ⟨rfl, rfl⟩
set_option maxRecDepth 100000 in
theorem most_any (w : World) (b s m : Nat) (g : Option Nat) (l : List Tk.Fd) (h : Tab w b g l s m) : Calls Try.prog 47 #[.pointer (some ⟨b, 0, none⟩)] w fun e w' => e = .returned (.int .i64 (m : Int)) ∧ w = w' := by
  obtain ⟨hc, _⟩ := h.most
  clear h
  go_enter Try.func47, Try.ntmps47
  go_wp2
  go_ret
  exact ⟨rfl, rfl⟩
theorem at_low {l : List Tk.Fd} {i : Int} (h : i < 1 ∨ (l.length : Int) < i) : Tk.at_ l i = (Tk.nil, false) := if_neg (by omega)
theorem at_here (l : List Tk.Fd) (k : Nat) (h : k < l.length) : Tk.at_ l ((k + 1 : Nat) : Int) = (l.getD k Tk.nil, true) := by
  unfold Tk.at_
  rw [if_pos (by omega), show (((k + 1 : Nat) : Int) - 1).toNat = k from by omega]
set_option maxRecDepth 100000 in
set_option maxHeartbeats 1000000 in
theorem at_any (w : World) (b s m : Nat) (g : Option Nat) (l : List Tk.Fd) (i : Int) (f : Tk.Fd) (is : Bool) (h : Tab w b g l s m) (ha : Tk.at_ (Tk.all l) i = (f, is)) (hi64 : i ≤ 9223372036854775807) :
    Calls Try.prog 62 #[.pointer (some ⟨b, 0, none⟩), .int .i64 i] w fun e w' => e = .returned (.tuple #[.agg #[.string f.1, .string f.2], .bool is]) ∧ Below w.heap.size w w' := by
  have hB : Below w.heap.size w (w.alloc (.cells #[.string ⟨#[]⟩, .string ⟨#[]⟩] 57)) := (Below.refl _ _).alloc (Nat.le_refl _) _
  have h1 := h.below hB
  have hfz := heap_alloc_new w (.cells #[.string ⟨#[]⟩, .string ⟨#[]⟩] 57)
  by_cases hi1 : i < 1
  · rw [at_low (.inl hi1)] at ha
    injection ha with ha1 ha2
    subst ha1; subst ha2
    go_enter Try.func62, Try.ntmps62
    go_wp2
    exact bodyPost_ret (v := .tuple #[.agg #[.string ⟨#[]⟩, .string ⟨#[]⟩], .bool false]) (by simp [results, Try.results62, go_sem]) rfl ⟨rfl, hB⟩
  · by_cases hi61 : i ≤ 61
    · obtain ⟨k, rfl⟩ : ∃ k : Nat, i = ((k + 1 : Nat) : Int) := ⟨(i - 1).toNat, by omega⟩
      rw [at_here _ k (by rw [Tk.all_length]; omega), Tk.all_static _ k (by omega)] at ha
      injection ha with ha1 ha2
      subst ha2
      have HST := Lib.hid (fun w => static_any w k (by omega) f ha1)
      clear ha1 h h1
      generalize k + 1 = k1 at *
      go_enter Try.func62, Try.ntmps62
      go_upto_region 1 with fail
      generalize w.alloc (.cells #[.string ⟨#[]⟩, .string ⟨#[]⟩] 57) = w1 at *
      generalize hBB : w.heap.size = B at *
      have HBB := Lib.hid hBB
      have HFZ := Lib.hid hfz
      clear hBB hfz
      go_wp2_with fail
      refine (HST.out _).mono ?_
      rintro e w2 ⟨rfl, hb2⟩
      have hfz2 : w2.heap[B]? = _ := (hb2.block B (heap_lt HFZ.out)).trans HFZ.out
      have hB2 : Below B w w2 := hB.trans (hb2.mono (Nat.le_of_lt (heap_lt HFZ.out)))
      have hb0 : w2.cell? ⟨B, 0, none⟩ = some (.string ⟨#[]⟩) := cell_of_blk hfz2 0 _ rfl
      have hb1 : w2.cell? ⟨B, 1, none⟩ = some (.string ⟨#[]⟩) := cell_of_blk hfz2 1 _ rfl
      have hz0 : w2.frozen? ⟨B, 0, none⟩ = false := frozen_of_row w2 B 0 _ _ hfz2
      have hz1 : w2.frozen? ⟨B, 1, none⟩ = false := frozen_of_row w2 B 1 _ _ hfz2
      clear hfz2
      go_wp2
      exact bodyPost_ret (v := .tuple #[.agg #[.string f.1, .string f.2], .bool true]) (by simp [results, Try.results62, go_sem, hb0, hb1]) rfl ⟨rfl, by rw [HBB.out]; exact (hB2.setCell (Nat.le_refl _) _).setCell (Nat.le_refl _) _⟩
    · have hw1 : IntKind.i64.wrap (i - 61) = i - 61 := IntWalk.i64_in _ (by omega)
      have hw2 : IntKind.i64.wrap (i - 61 - 1) = i - 61 - 1 := IntWalk.i64_in _ (by omega)
      obtain ⟨x, y⟩ := f
      have hc : ∀ w, Ring w b 101 57 2 [.int .i64 (s : Int), .int .i64 (m : Int)] g (l.map encF) → Calls Try.prog 76 #[.pointer (some ⟨b, 0, none⟩), .int .i64 (i - 61 - 1)] w fun e w' => e = .returned (.tuple #[.agg #[.string x, .string y], .bool is]) ∧ Below w.heap.size w w' := by
        intro w hR
        by_cases hin : i - 62 < (l.length : Int)
        · obtain ⟨k, hk⟩ : ∃ k : Nat, i - 61 - 1 = (k : Int) := ⟨(i - 62).toNat, by omega⟩
          have hik : i = ((61 + k + 1 : Nat) : Int) := by omega
          rw [hik, at_here _ (61 + k) (by rw [Tk.all_length]; omega), Tk.all_dyn] at ha
          injection ha with ha1 ha2
          subst ha2
          rw [hk]
          refine at_inf w b _ _ g _ k x y hR ?_
          have := encF_at l k (by omega)
          rw [this]
          have e : l.getD k Tk.nil = l.getD k (⟨#[]⟩, ⟨#[]⟩) := rfl
          rw [← e, ha1]
        · rw [at_low (.inr (by rw [Tk.all_length]; omega))] at ha
          injection ha with ha1 ha2
          injection ha1 with hx hy
          subst hx; subst hy; subst ha2
          exact at_outf w b _ _ g _ _ hR (.inr (by rw [List.length_map]; omega))
      have HC := Lib.hid hc
      clear hc ha h
      go_enter Try.func62, Try.ntmps62
      go_upto_region 1 with fail
      generalize w.alloc (.cells #[.string ⟨#[]⟩, .string ⟨#[]⟩] 57) = w1 at *
      generalize hBB : w.heap.size = B at *
      have HBB := Lib.hid hBB
      have HFZ := Lib.hid hfz
      clear hBB hfz
      go_wp2_with fail
      refine (HC.out _ h1).mono ?_
      rintro e w2 ⟨rfl, hb2⟩
      have hfz2 : w2.heap[B]? = _ := (hb2.block B (heap_lt HFZ.out)).trans HFZ.out
      have hB2 : Below B w w2 := hB.trans (hb2.mono (Nat.le_of_lt (heap_lt HFZ.out)))
      have hb0 : w2.cell? ⟨B, 0, none⟩ = some (.string ⟨#[]⟩) := cell_of_blk hfz2 0 _ rfl
      have hb1 : w2.cell? ⟨B, 1, none⟩ = some (.string ⟨#[]⟩) := cell_of_blk hfz2 1 _ rfl
      have hz0 : w2.frozen? ⟨B, 0, none⟩ = false := frozen_of_row w2 B 0 _ _ hfz2
      have hz1 : w2.frozen? ⟨B, 1, none⟩ = false := frozen_of_row w2 B 1 _ _ hfz2
      clear hfz2
      go_wp2
      exact bodyPost_ret (v := .tuple #[.agg #[.string x, .string y], .bool is]) (by simp [results, Try.results62, go_sem, hb0, hb1]) rfl ⟨rfl, by rw [HBB.out]; exact (hB2.setCell (Nat.le_refl _) _).setCell (Nat.le_refl _) _⟩
end Go.Proofs.Ytmjibpjnhehnnaa
