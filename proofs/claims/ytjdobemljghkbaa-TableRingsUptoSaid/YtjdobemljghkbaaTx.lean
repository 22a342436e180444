/- The examples of tables: awake answers true. -/
import Derived.Test.YtjdobemljghkbaaTw
import Derived.Test.YtjdobemljghkbaaTi
import Derived.Deep.RegionHeld3
namespace Go.Proofs.Ytjdobemljghkbaa
open Go.RowKit
attribute [local go_sem ↓] Go.wp_at_zero Go.wp_at_succ

set_option maxRecDepth 100000 in
theorem field_any (w : World) (x y : ByteArray) : Calls Try.prog 19 #[.string x, .string y] w fun e w' => e = .returned (.agg #[.string x, .string y]) ∧ Below w.heap.size w w' := by
  have hB : Below w.heap.size w (w.alloc (.cells #[.string ⟨#[]⟩, .string ⟨#[]⟩] 30)) := (Below.refl _ _).alloc (Nat.le_refl _) _
  have hfz := heap_alloc_new w (.cells #[.string ⟨#[]⟩, .string ⟨#[]⟩] 30)
  go_enter Try.func19, Try.ntmps19
  go_upto_region 1 with fail
  generalize w.alloc (.cells #[.string ⟨#[]⟩, .string ⟨#[]⟩] 30) = w1 at *
  generalize hBB : w.heap.size = B at *
  have HBB := Lib.hid hBB
  have hb0 : w1.cell? ⟨B, 0, none⟩ = some (.string ⟨#[]⟩) := cell_of_blk hfz 0 _ rfl
  have hb1 : w1.cell? ⟨B, 1, none⟩ = some (.string ⟨#[]⟩) := cell_of_blk hfz 1 _ rfl
  have hz0 : w1.frozen? ⟨B, 0, none⟩ = false := frozen_of_row w1 B 0 _ _ hfz
  have hz1 : w1.frozen? ⟨B, 1, none⟩ = false := frozen_of_row w1 B 1 _ _ hfz
  clear hBB hfz
  go_wp2
  exact bodyPost_ret (v := .agg #[.string x, .string y]) (by simp [results, Try.results19, go_sem, hb0, hb1]) rfl ⟨rfl, by rw [HBB.out]; exact (hB.setCell (Nat.le_refl _) _).setCell (Nat.le_refl _) _⟩

def fa : Tk.Fd := (⟨#[97]⟩, ⟨#[98]⟩)
def fc : Tk.Fd := (⟨#[99]⟩, ⟨#[]⟩)
def fe : Tk.Fd := (⟨#[100]⟩, ⟨#[101]⟩)
theorem ex1 : Tk.add 100 fa [] = [fa] := by
  unfold Tk.add
  rw [if_pos (by decide), Tk.shr_le (by decide)]
theorem ex2 : Tk.add 100 fc [fa] = [fc, fa] := by
  unfold Tk.add
  rw [if_pos (by decide), Tk.shr_le (by decide)]
theorem ex3 : Tk.add 100 fe [fc, fa] = [fe, fc] := by
  unfold Tk.add
  rw [if_pos (by decide), Tk.shr_gt (by decide), Tk.shr_le (by decide)]
  rfl
theorem ex4 : Tk.at_ (Tk.all [fe, fc]) 62 = (fe, true) := by decide +kernel
theorem ex5 : Tk.find (⟨#[58, 109, 101, 116, 104, 111, 100]⟩, ⟨#[80, 79, 83, 84]⟩) (Tk.all [fe, fc]) 0 0 = (3, true) := by decide +kernel
theorem ex6 : Tk.find (⟨#[58, 109, 101, 116, 104, 111, 100]⟩, ⟨#[80, 85, 84]⟩) (Tk.all [fe, fc]) 0 0 = (2, false) := by decide +kernel
theorem fits_small (x y : ByteArray) (h : x.size ≤ 1000 ∧ y.size ≤ 1000) : Fits (x, y) := ⟨by simp only; omega, by simp only; omega⟩

/-- A table and, elsewhere, a ring of numbers. -/
def TwoAt (w : World) (b b2 : Nat) (l : List Tk.Fd) (g2 : Option Nat) (li : List Int) : Prop := ∃ g, Tab w b g l (Tk.sum l) 100 ∧ Ring w b2 73 3 1 [] g2 (li.map encI) ∧ b < b2 ∧ (∀ k, g = some k → b2 < k) ∧ (∀ k, g2 = some k → b2 < k ∧ g ≠ some k)
theorem TwoAt.below {w w' : World} {b b2 : Nat} {l : List Tk.Fd} {g2 : Option Nat} {li : List Int} (h : TwoAt w b b2 l g2 li) (hb : Below w.heap.size w w') : TwoAt w' b b2 l g2 li := by
  obtain ⟨g, h1, h2, r⟩ := h
  exact ⟨g, h1.below hb, h2.below hb, r⟩
theorem only_from {S : Nat → Prop} {w0 w w' : World} {b : Nat} (h : Below b w0 w) (hO : Only S w w') (hS : ∀ k, S k → b ≤ k) (hs : b ≤ w.heap.size) : Below b w0 w' := h.trans (hO.below hS hs)
theorem TwoAt.add {w0 w w' : World} {b b2 : Nat} {l l' : List Tk.Fd} {li : List Int} {g g2 : Option Nat} (h1 : Tab w b g l (Tk.sum l) 100) (h2 : Ring w b2 73 3 1 [] g2 (li.map encI)) (hne : b < b2) (hg : ∀ k, g = some k → b2 < k) (hg2 : ∀ k, g2 = some k → b2 < k ∧ g ≠ some k) (h : Added w b g l' 100 w') (hB : Below b w0 w) : TwoAt w' b b2 l' g2 li ∧ Below b w0 w' := by
  obtain ⟨g', hT, hO, hgg⟩ := h
  have hl1 := h1.lt
  have hl2 := h2.lt
  refine ⟨⟨g', hT, h2.only hO ?_ ?_, hne, ?_, ?_⟩, only_from hB hO ?_ (by omega)⟩
  · rintro (e | e)
    · omega
    · have := hg b2 e; omega
  · rintro k hk (e | e)
    · have := (hg2 k hk).1; omega
    · exact (hg2 k hk).2 e
  · intro k hk
    rcases hgg with rfl | ⟨k', hk', hle⟩
    · exact hg k hk
    · rw [hk] at hk'; injection hk' with hk'; have := hl2.1; omega
  · intro k hk
    refine ⟨(hg2 k hk).1, fun e => ?_⟩
    rcases hgg with rfl | ⟨k', hk', hle⟩
    · exact (hg2 k hk).2 e
    · rw [e] at hk'; injection hk' with hk'; have := (hl2.2 k hk).1; omega
  · rintro k (e | e)
    · omega
    · have := hg k e; omega
theorem TwoAt.ring {w0 w w' : World} {b b2 : Nat} {l : List Tk.Fd} {li' : List Int} {g g2 g2' : Option Nat} (h1 : Tab w b g l (Tk.sum l) 100) (hne : b < b2) (hg : ∀ k, g = some k → b2 < k) (hg2 : ∀ k, g2 = some k → b2 < k ∧ g ≠ some k) (hb2 : b2 < w.heap.size) (hR : Ring w' b2 73 3 1 [] g2' (li'.map encI)) (hO : Only (RS b2 g2) w w') (hgg : g2' = g2 ∨ ∃ k, g2' = some k ∧ w.heap.size ≤ k) (hB : Below b w0 w) : TwoAt w' b b2 l g2' li' ∧ Below b w0 w' := by
  have hl1 := h1.lt
  refine ⟨⟨g, h1.only hO ?_ ?_, hR, hne, hg, ?_⟩, only_from hB hO ?_ (by omega)⟩
  · rintro (e | e)
    · omega
    · have := (hg2 b e).1; omega
  · rintro k hk (e | e)
    · have := hg k hk; omega
    · exact (hg2 k e).2 hk
  · intro k hk
    rcases hgg with rfl | ⟨k', hk', hle⟩
    · exact hg2 k hk
    · rw [hk] at hk'; injection hk' with hk'
      refine ⟨by omega, fun e => ?_⟩
      have := (hl1.2 k e).1
      omega
  · rintro k (e | e)
    · omega
    · have := (hg2 k e).1; omega
theorem bel2 {w w1 w2 : World} (h1 : Below w.heap.size w w1) (h2 : Below w1.heap.size w1 w2) : Below w.heap.size w w2 := h1.trans (h2.mono h1.size)
theorem belB {B : Nat} {w w1 w2 : World} (h1 : Below B w w1) (hB : B ≤ w1.heap.size) (h2 : Below w1.heap.size w1 w2) : Below B w w2 := h1.trans (h2.mono hB)
theorem TwoAt.lt {w : World} {b b2 : Nat} {l : List Tk.Fd} {g2 : Option Nat} {li : List Int} (h : TwoAt w b b2 l g2 li) : b < w.heap.size := by obtain ⟨g, h1, _⟩ := h; exact h1.lt.1

theorem at_xy (w : World) (b s m : Nat) (g : Option Nat) (l : List Tk.Fd) (i : Int) (x y : ByteArray) (is : Bool) (h : Tab w b g l s m) (ha : Tk.at_ (Tk.all l) i = ((x, y), is)) (hi64 : i ≤ 9223372036854775807) :
    Calls Try.prog 10 #[.pointer (some ⟨b, 0, none⟩), .int .i64 i] w fun e w' => e = .returned (.tuple #[.agg #[.string x, .string y], .bool is]) ∧ Below w.heap.size w w' := at_any w b s m g l i (x, y) is h ha hi64
set_option maxRecDepth 100000 in
set_option maxHeartbeats 4000000 in
theorem awake_true (w : World) : Calls Try.prog 12 #[] w fun e w' => e = .returned (.bool true) ∧ Below w.heap.size w w' := by
  go_enter Try.func12, Try.ntmps12
  go_wp2_with fail
  refine (new_good w 100 (by omega)).mono ?_
  rintro e w1 ⟨rfl, hb1, hz1, hT1⟩
  go_wp2_with fail
  refine (newring_i w1).mono ?_
  rintro e w2 ⟨rfl, hw2⟩
  have hb2 : Below w1.heap.size w1 w2 := by rw [hw2]; exact (Below.refl _ _).alloc (Nat.le_refl _) _
  have hR2 := ring_newi w1
  rw [← hw2] at hR2
  have h2 : TwoAt w2 w.heap.size w1.heap.size [] none [] := ⟨none, hT1.below hb2, hR2, by omega, (fun k hk => by cases hk), (fun k hk => by cases hk)⟩
  have hB : Below w.heap.size w w2 := bel2 hb1 hb2
  generalize hbb : w.heap.size = b at *
  have HBB := Lib.hid hbb
  generalize w1.heap.size = b2 at *
  clear hw2 hR2 hT1 hb1 hb2 hbb
  clear hz1
  go_wp2_with fail
  refine (field_any w2 ⟨#[97]⟩ ⟨#[98]⟩).mono ?_
  rintro e w3 ⟨rfl, hb3⟩
  have h3 := h2.below hb3
  have hB3 : Below b w w3 := belB hB (Nat.le_of_lt h2.lt) hb3
  obtain ⟨g, hT, hR, hne, hg, hg2⟩ := h3
  go_wp2_with fail
  refine (add_any w3 b g [] 100 ⟨#[97]⟩ ⟨#[98]⟩ hT (by decide) (by omega) (fits_small _ _ (by decide))).mono ?_
  rintro e w4 ⟨rfl, hA⟩
  have hA' : Added w3 b g [fa] 100 w4 := by rw [← ex1]; exact hA
  obtain ⟨h4, hB4⟩ := TwoAt.add hT hR hne hg hg2 hA' hB3
  clear hA hA' hT hR hne hg hg2 hB hb3 hB3 h2
  clear g
  have hB := hB4
  clear hB4
  go_wp2_with fail
  refine (field_any w4 ⟨#[99]⟩ ⟨#[]⟩).mono ?_
  rintro e w5 ⟨rfl, hb5⟩
  have h5 := h4.below hb5
  have hB5 : Below b w w5 := belB hB (Nat.le_of_lt h4.lt) hb5
  obtain ⟨g, hT, hR, hne, hg, hg2⟩ := h5
  go_wp2_with fail
  refine (add_any w5 b g [fa] 100 ⟨#[99]⟩ ⟨#[]⟩ hT (by decide) (by omega) (fits_small _ _ (by decide))).mono ?_
  rintro e w6 ⟨rfl, hA⟩
  have hA' : Added w5 b g [fc, fa] 100 w6 := by rw [← ex2]; exact hA
  obtain ⟨h6, hB6⟩ := TwoAt.add hT hR hne hg hg2 hA' hB5
  clear hA hA' hT hR hne hg hg2 hB hb5 hB5 h4
  clear g
  have hB := hB6
  clear hB6
  go_wp2_with fail
  refine (field_any w6 ⟨#[100]⟩ ⟨#[101]⟩).mono ?_
  rintro e w7 ⟨rfl, hb7⟩
  have h7 := h6.below hb7
  have hB7 : Below b w w7 := belB hB (Nat.le_of_lt h6.lt) hb7
  obtain ⟨g, hT, hR, hne, hg, hg2⟩ := h7
  go_wp2_with fail
  refine (add_any w7 b g [fc, fa] 100 ⟨#[100]⟩ ⟨#[101]⟩ hT (by decide) (by omega) (fits_small _ _ (by decide))).mono ?_
  rintro e w8 ⟨rfl, hA⟩
  have hA' : Added w7 b g [fe, fc] 100 w8 := by rw [← ex3]; exact hA
  obtain ⟨h8, hB8⟩ := TwoAt.add hT hR hne hg hg2 hA' hB7
  clear hA hA' hT hR hne hg hg2 hB hb7 hB7 h6
  clear g
  have hB := hB8
  clear hB8
  obtain ⟨g, hT, hR, hne, hg, hg2⟩ := h8
  have h : TwoAt w8 b b2 [fe, fc] none [] := ⟨g, hT, hR, hne, hg, hg2⟩
  go_wp2_with fail
  refine (at_xy w8 b _ 100 g [fe, fc] 62 ⟨#[100]⟩ ⟨#[101]⟩ true hT ex4 (by omega)).mono ?_
  rintro e v1 ⟨rfl, hb1⟩
  have h1 := h.below hb1
  have hB1 : Below b w v1 := belB hB (Nat.le_of_lt h.lt) hb1
  clear hT hR hne hg hg2 h hB hb1
  clear g
  go_upto_region 9 with fail
  have hb2 : Below v1.heap.size v1 (v1.alloc (.cells #[.string ⟨#[100]⟩, .string ⟨#[101]⟩] 30)) := (Below.refl _ _).alloc (Nat.le_refl _) _
  have hbx := heap_alloc_new v1 (.cells #[.string ⟨#[100]⟩, .string ⟨#[101]⟩] 30)
  have h2 := h1.below hb2
  have hB2 : Below b w (v1.alloc (.cells #[.string ⟨#[100]⟩, .string ⟨#[101]⟩] 30)) := belB hB1 (Nat.le_of_lt h1.lt) hb2
  have hb1l := h1.lt
  have hb2l : b2 < v1.heap.size := by obtain ⟨_, _, hR, _⟩ := h1; exact hR.lt.1
  clear h1 hb2 hB1
  generalize v1.alloc (.cells #[.string ⟨#[100]⟩, .string ⟨#[101]⟩] 30) = v2 at *
  generalize v1.heap.size = B4 at *
  have HBX := Lib.hid hbx
  clear hbx
  clear v1
  go_wp2_with fail
  refine (field_any v2 ⟨#[58, 109, 101, 116, 104, 111, 100]⟩ ⟨#[80, 79, 83, 84]⟩).mono ?_
  rintro e v3 ⟨rfl, hb3⟩
  have h3 := h2.below hb3
  have hB3 : Below b w v3 := belB hB2 (Nat.le_of_lt h2.lt) hb3
  have HBX3 := Lib.hid ((hb3.block B4 (heap_lt HBX.out)).trans HBX.out)
  clear HBX hb3 h2 hB2
  have HBX := HBX3
  clear HBX3
  obtain ⟨g, hT, hR, hne, hg, hg2⟩ := h3
  go_wp2_with fail
  refine (find_any v3 b _ 100 g [fe, fc] ⟨#[58, 109, 101, 116, 104, 111, 100]⟩ ⟨#[80, 79, 83, 84]⟩ _ hT ex5 (by simp)).mono ?_
  rintro e v4 ⟨rfl, hb4⟩
  have h : TwoAt v3 b b2 [fe, fc] none [] := ⟨g, hT, hR, hne, hg, hg2⟩
  have h4 := h.below hb4
  have hB4 : Below b w v4 := belB hB3 (Nat.le_of_lt h.lt) hb4
  have HBX4 := Lib.hid ((hb4.block B4 (heap_lt HBX.out)).trans HBX.out)
  clear HBX h hT hR hne hg hg2 hb4 hB3
  clear g
  have HBX := HBX4
  clear HBX4
  go_wp2_with fail
  refine (field_any v4 ⟨#[58, 109, 101, 116, 104, 111, 100]⟩ ⟨#[80, 85, 84]⟩).mono ?_
  rintro e v5 ⟨rfl, hb5⟩
  have h5 := h4.below hb5
  have hB5 : Below b w v5 := belB hB4 (Nat.le_of_lt h4.lt) hb5
  have HBX5 := Lib.hid ((hb5.block B4 (heap_lt HBX.out)).trans HBX.out)
  clear HBX hb5 h4 hB4
  have HBX := HBX5
  clear HBX5
  obtain ⟨g, hT, hR, hne, hg, hg2⟩ := h5
  go_wp2_with fail
  refine (find_any v5 b _ 100 g [fe, fc] ⟨#[58, 109, 101, 116, 104, 111, 100]⟩ ⟨#[80, 85, 84]⟩ _ hT ex6 (by simp)).mono ?_
  rintro e v6 ⟨rfl, hb6⟩
  have h : TwoAt v5 b b2 [fe, fc] none [] := ⟨g, hT, hR, hne, hg, hg2⟩
  have h6 := h.below hb6
  have hB6 : Below b w v6 := belB hB5 (Nat.le_of_lt h.lt) hb6
  have HBX6 := Lib.hid ((hb6.block B4 (heap_lt HBX.out)).trans HBX.out)
  clear HBX h hT hR hne hg hg2 hb6 hB5
  clear g
  have HBX := HBX6
  clear HBX6
  obtain ⟨g, hT, hR, hne, hg, hg2⟩ := h6
  go_wp2_with fail
  refine (push_i v6 b2 _ [] none [] 1 hR (by simp) (by simp)).mono ?_
  rintro e u1 ⟨rfl, g2, hR1, hO1, hgg1⟩
  have hBX1 : u1.heap[B4]? = _ := hO1.block' HBX.out (by
    rintro (e | e)
    · omega
    · cases e)
  have hlt := heap_lt HBX.out
  have hg2B : ∀ k, g2 = some k → B4 < k := by
    intro k hk
    rcases hgg1 with e | ⟨k', hk', hle⟩
    · rw [e] at hk; cases hk
    · rw [hk] at hk'; injection hk' with hk'; omega
  obtain ⟨t1, hU1⟩ := TwoAt.ring (li' := [1]) hT hne hg hg2 (by omega) hR1 hO1 hgg1 hB6
  clear hT hR hne hg hg2 hB6 hR1 hO1 hgg1
  clear g
  have HBX1 := Lib.hid hBX1
  clear hBX1 HBX
  obtain ⟨g, hT, hR, hne, hg, hg2⟩ := t1
  go_wp2_with fail
  refine (push_i u1 b2 _ [] g2 _ 2 hR (by simp) (encI_el _)).mono ?_
  rintro e u2 ⟨rfl, g3, hR2, hO2, hgg2⟩
  have hBX2 : u2.heap[B4]? = _ := hO2.block' HBX1.out (by
    rintro (e | e)
    · omega
    · have := hg2B B4 e; omega)
  have hlt1 := heap_lt HBX1.out
  have hg3B : ∀ k, g3 = some k → B4 < k := by
    intro k hk
    rcases hgg2 with e | ⟨k', hk', hle⟩
    · rw [e] at hk; exact hg2B k hk
    · rw [hk] at hk'; injection hk' with hk'; omega
  obtain ⟨t2, hU2⟩ := TwoAt.ring (li' := [2, 1]) hT hne hg hg2 hR.lt.1 hR2 hO2 hgg2 hU1
  clear hT hR hne hg hg2 hU1 hR2 hO2 hgg2 hg2B
  clear g
  have HBX2 := Lib.hid hBX2
  clear hBX2 HBX1
  obtain ⟨g, hT, hR, hne, hg, hg2⟩ := t2
  go_wp2_with fail
  refine (pop_somei u2 b2 _ [] g3 ([2].map encI) 1 hR (by simp)).mono ?_
  rintro e u3 ⟨rfl, hR3, hO3⟩
  have hBX3 : u3.heap[B4]? = _ := hO3.block' HBX2.out (by
    rintro (e | e)
    · omega
    · have := hg3B B4 e; omega)
  obtain ⟨t3, hU3⟩ := TwoAt.ring (li' := [2]) hT hne hg hg2 hR.lt.1 hR3 hO3 (.inl rfl) hU2
  clear hT hR hne hg hg2 hU2 hR3 hO3 hg3B
  clear g
  have HBX3 := Lib.hid hBX3
  clear hBX3 HBX2
  obtain ⟨g, hT, hR, hne, hg, hg2⟩ := t3
  have hs : Tk.sum [fe, fc] = 67 := by decide
  rw [hs] at hT
  clear hs
  have hc0 : u3.cell? ⟨B4, 0, none⟩ = some (.string ⟨#[100]⟩) := cell_of_blk HBX3.out 0 _ rfl
  have hc1 : u3.cell? ⟨B4, 1, none⟩ = some (.string ⟨#[101]⟩) := cell_of_blk HBX3.out 1 _ rfl
  have hfit : Fits (⟨#[100]⟩, ⟨#[101]⟩) := fits_small _ _ (by decide)
  have hltu := heap_lt HBX3.out
  go_upto_region 14 with fail
  go_region_held3 (fun w' => w'.cell? ⟨B4, 0, none⟩ = some (.string ⟨#[100]⟩) ∧ w'.cell? ⟨B4, 1, none⟩ = some (.string ⟨#[101]⟩)) (first | exact ⟨hc0, hc1⟩ | exact ⟨hc04, hc14⟩ | exact ⟨hc06, hc16⟩) (first | (go_at_call 19; refine (field_any _ _ _).mono ?_; rintro e u4 ⟨rfl, hb4d⟩; have hb4 := below_undrew hb4d; have hT4 := hT.below hb4; have hR4 := hR.below hb4; have hbx4 : u4.heap[B4]? = _ := (hb4.block B4 hltu).trans HBX3.out; have hc04 : u4.cell? ⟨B4, 0, none⟩ = some (.string ⟨#[100]⟩) := cell_of_blk hbx4 0 _ rfl; have hc14 : u4.cell? ⟨B4, 1, none⟩ = some (.string ⟨#[101]⟩) := cell_of_blk hbx4 1 _ rfl) | (go_at_call 29; refine (size_any _ b 67 100 g _ (by exact hT4)).mono ?_; rintro e w5 ⟨rfl, rfl⟩) | (go_at_call 32; refine (len_any _ b 67 100 g _ (by exact hT4)).mono ?_; rintro e w5 ⟨rfl, rfl⟩) | (go_at_call 21; refine (len_i _ b2 _ _ g3 _ 1 rfl (by exact hR4)).mono ?_; rintro e w5 ⟨rfl, rfl⟩) | (go_at_call 33; refine (weight_any _ _ _ hfit).mono ?_; rintro e u6 ⟨rfl, hb6⟩; have hbx6 : u6.heap[B4]? = _ := (hb6.block B4 (heap_lt hbx4)).trans hbx4; have hc06 : u6.cell? ⟨B4, 0, none⟩ = some (.string ⟨#[100]⟩) := cell_of_blk hbx6 0 _ rfl; have hc16 : u6.cell? ⟨B4, 1, none⟩ = some (.string ⟨#[101]⟩) := cell_of_blk hbx6 1 _ rfl))
  all_goals go_wp2
  all_goals go_ret
  all_goals exact ⟨rfl, by rw [HBB.out]; exact belB (belB hU3 (by omega) hb4) (Nat.le_of_lt (hT4.lt.1)) hb6⟩
end Go.Proofs.Ytjdobemljghkbaa
