/- The two tables of a round, the box of the call, and what each step does to them. -/
import Derived.Test.YtjdobemljghkbaaTx
namespace Go.Proofs.Ytjdobemljghkbaa
open Go.RowKit
attribute [local go_sem ↓] Go.wp_at_zero Go.wp_at_succ

/-- One element of the script. -/
def CallAt (w : World) (a : Option Addr) (i : Nat) : Prop :=
  ∃ x : Addr, a = some x ∧ x.block < w.heap.size ∧ ∃ (wh n : Int) (s t : ByteArray), (0 ≤ wh ∧ wh ≤ 255) ∧ (-9223372036854775808 ≤ n ∧ n ≤ 9223372036854775807) ∧ Fits (s, t) ∧
    w.cell? (x.add (i * 4)) = some (.int .u8 wh) ∧ w.cell? (x.add (i * 4 + 1)) = some (.int .i64 n) ∧ w.cell? (x.add (i * 4 + 2)) = some (.string s) ∧ w.cell? (x.add (i * 4 + 3)) = some (.string t)

/-- A table, a reference's table, and the box of the call. -/
def TB (w0 : World) (b bx m m2 : Nat) (l l2 : List Tk.Fd) (B : Nat) (ob : Obj) (w : World) : Prop :=
  ∃ g g2, Tab w b g l (Tk.sum l) m ∧ RTab w bx g2 m2 l2 ∧ b < bx ∧ (∀ k, g = some k → bx < k ∧ k ≠ B) ∧ (∀ k, g2 = some k → bx < k ∧ g ≠ some k ∧ k ≠ B) ∧ bx < B ∧ w.heap[B]? = some ob ∧ Below b w0 w
/-- The same without the box. -/
def TN (w0 : World) (b bx m : Nat) (l : List Tk.Fd) (w : World) : Prop :=
  ∃ g g2, Tab w b g l (Tk.sum l) m ∧ RTab w bx g2 m l ∧ b < bx ∧ (∀ k, g = some k → bx < k) ∧ (∀ k, g2 = some k → bx < k ∧ g ≠ some k) ∧ Below b w0 w
theorem TB.forget {w0 w : World} {b bx m : Nat} {l : List Tk.Fd} {B : Nat} {ob : Obj} (h : TB w0 b bx m m l l B ob w) : TN w0 b bx m l w := by
  obtain ⟨g, g2, h1, h2, h3, h4, h5, _, _, h8⟩ := h
  exact ⟨g, g2, h1, h2, h3, fun k hk => (h4 k hk).1, fun k hk => ⟨(h5 k hk).1, (h5 k hk).2.1⟩, h8⟩
theorem TN.box {w0 w : World} {b bx m : Nat} {l : List Tk.Fd} (h : TN w0 b bx m l w) (ob : Obj) : TB w0 b bx m m l l w.heap.size ob (w.alloc ob) := by
  obtain ⟨g, g2, h1, h2, h3, h4, h5, h8⟩ := h
  have hB : Below w.heap.size w (w.alloc ob) := (Below.refl _ _).alloc (Nat.le_refl _) _
  have l1 := h1.lt
  have l2 := h2.lt
  exact ⟨g, g2, h1.below hB, h2.below hB, h3, fun k hk => ⟨h4 k hk, by have := (l1.2 k hk).1; omega⟩, fun k hk => ⟨(h5 k hk).1, (h5 k hk).2, by have := (l2.2 k hk).1; omega⟩, l2.1, heap_alloc_new w ob, belB h8 (by omega) hB⟩
theorem TB.below {w0 w w' : World} {b bx m m2 : Nat} {l l2 : List Tk.Fd} {B : Nat} {ob : Obj} (h : TB w0 b bx m m2 l l2 B ob w) (hb : Below w.heap.size w w') : TB w0 b bx m m2 l l2 B ob w' := by
  obtain ⟨g, g2, h1, h2, h3, h4, h5, h6, h7, h8⟩ := h
  have l1 := h1.lt
  exact ⟨g, g2, h1.below hb, h2.below hb, h3, h4, h5, h6, (hb.block B (heap_lt h7)).trans h7, belB h8 (by omega) hb⟩
theorem TB.lt {w0 w : World} {b bx m m2 : Nat} {l l2 : List Tk.Fd} {B : Nat} {ob : Obj} (h : TB w0 b bx m m2 l l2 B ob w) : b < bx ∧ bx < B ∧ B < w.heap.size ∧ w.heap[B]? = some ob ∧ Below b w0 w := by
  obtain ⟨g, g2, h1, h2, h3, h4, h5, h6, h7, h8⟩ := h
  exact ⟨h3, h6, heap_lt h7, h7, h8⟩
theorem TB.tab {w0 w w' : World} {b bx m m2 m' : Nat} {l l2 l' : List Tk.Fd} {B : Nat} {ob : Obj} {g g' g2 : Option Nat} (h1 : Tab w b g l (Tk.sum l) m) (h2 : RTab w bx g2 m2 l2) (h3 : b < bx) (h4 : ∀ k, g = some k → bx < k ∧ k ≠ B) (h5 : ∀ k, g2 = some k → bx < k ∧ g ≠ some k ∧ k ≠ B) (h6 : bx < B) (h7 : w.heap[B]? = some ob) (h8 : Below b w0 w)
    (hT : Tab w' b g' l' (Tk.sum l') m') (hO : Only (RS b g) w w') (hg : g' = g ∨ ∃ k, g' = some k ∧ w.heap.size ≤ k) : TB w0 b bx m' m2 l' l2 B ob w' := by
  have l1 := h1.lt
  have l2' := h2.lt
  have l7 := heap_lt h7
  refine ⟨g', g2, hT, h2.only hO ?_ ?_, h3, ?_, ?_, h6, hO.block' h7 ?_, only_from h8 hO ?_ (by omega)⟩
  · rintro (e | e)
    · omega
    · have := h4 bx e; omega
  · rintro k hk (e | e)
    · have := (h5 k hk).1; omega
    · exact (h5 k hk).2.1 e
  · intro k hk
    rcases hg with rfl | ⟨k', hk', hle⟩
    · exact h4 k hk
    · rw [hk] at hk'; injection hk' with hk'; omega
  · intro k hk
    refine ⟨(h5 k hk).1, fun e => ?_, (h5 k hk).2.2⟩
    rcases hg with rfl | ⟨k', hk', hle⟩
    · exact (h5 k hk).2.1 e
    · rw [e] at hk'; injection hk' with hk'; have := (l2'.2 k hk).1; omega
  · rintro (e | e)
    · omega
    · exact (h4 B e).2 rfl
  · rintro k (e | e)
    · omega
    · have := (h4 k e).1; omega
theorem TB.rtab {w0 w w' : World} {b bx m m2 m' : Nat} {l l2 l' : List Tk.Fd} {B : Nat} {ob : Obj} {g g2 g2' : Option Nat} (h1 : Tab w b g l (Tk.sum l) m) (h2 : RTab w bx g2 m2 l2) (h3 : b < bx) (h4 : ∀ k, g = some k → bx < k ∧ k ≠ B) (h5 : ∀ k, g2 = some k → bx < k ∧ g ≠ some k ∧ k ≠ B) (h6 : bx < B) (h7 : w.heap[B]? = some ob) (h8 : Below b w0 w)
    (hT : RTab w' bx g2' m' l') (hO : Only (· = bx) w w') (hg : g2' = g2 ∨ ∀ k, g2' = some k → w.heap.size ≤ k) : TB w0 b bx m m' l l' B ob w' := by
  have l1 := h1.lt
  have l2' := h2.lt
  have l7 := heap_lt h7
  refine ⟨g, g2', h1.only hO (by omega) (fun k hk e => by have := h4 k hk; omega), hT, h3, h4, ?_, h6, hO.block' h7 (by omega), only_from h8 hO (fun k e => by omega) (by omega)⟩
  intro k hk
  rcases hg with rfl | hle
  · exact h5 k hk
  · have := hle k hk
    exact ⟨by omega, fun e => by have := (l1.2 k e).1; omega, by omega⟩
section
variable {w0 w : World} {b bx m m2 : Nat} {l l2 : List Tk.Fd} {B : Nat} {ob : Obj}
theorem tb_add (h : TB w0 b bx m m2 l l2 B ob w) (hs : Tk.sum l ≤ m) (hm : m ≤ 65536) (x y : ByteArray) (hf : Fits (x, y)) : Calls Try.prog 23 #[.pointer (some ⟨b, 0, none⟩), .agg #[.string x, .string y]] w fun e w' => e = .returned (.tuple #[]) ∧ TB w0 b bx m m2 (Tk.add m (x, y) l) l2 B ob w' := by
  obtain ⟨g, g2, h1, h2, h3, h4, h5, h6, h7, h8⟩ := h
  refine (add_any w b g l m x y h1 hs hm hf).mono ?_
  rintro e w' ⟨rfl, g', hT, hO, hg⟩
  exact ⟨rfl, TB.tab h1 h2 h3 h4 h5 h6 h7 h8 hT hO hg⟩
theorem tb_radd (h : TB w0 b bx m m2 l l2 B ob w) (hs : Tk.sum l2 ≤ 65536) (hm : m2 ≤ 65536) (x y : ByteArray) (hf : Fits (x, y)) : Calls Try.prog 24 #[.pointer (some ⟨bx, 0, none⟩), .agg #[.string x, .string y]] w fun e w' => e = .returned (.tuple #[]) ∧ TB w0 b bx m m2 l (Tk.add m2 (x, y) l2) B ob w' := by
  obtain ⟨g, g2, h1, h2, h3, h4, h5, h6, h7, h8⟩ := h
  refine (radd_any w bx m2 g2 l2 x y h2 hs hm hf).mono ?_
  rintro e w' ⟨rfl, g', hT, hO, hg⟩
  exact ⟨rfl, TB.rtab h1 h2 h3 h4 h5 h6 h7 h8 hT hO (.inr hg)⟩
theorem tb_resize (h : TB w0 b bx m m2 l l2 B ob w) (hs : Tk.sum l ≤ 65536) (n : Nat) (hn : n ≤ 65536) : Calls Try.prog 25 #[.pointer (some ⟨b, 0, none⟩), .int .i64 (n : Int)] w fun e w' => e = .returned (.int .i64 0) ∧ TB w0 b bx n m2 (Tk.shr n l) l2 B ob w' := by
  obtain ⟨g, g2, h1, h2, h3, h4, h5, h6, h7, h8⟩ := h
  refine (resize_good w b g l m n h1 hs hn).mono ?_
  rintro e w' ⟨rfl, hT, hO⟩
  exact ⟨rfl, TB.tab h1 h2 h3 h4 h5 h6 h7 h8 hT hO (.inl rfl)⟩
theorem tb_rresize (h : TB w0 b bx m m2 l l2 B ob w) (hs : Tk.sum l2 ≤ 65536) (n : Nat) (hn : n ≤ 65536) : Calls Try.prog 26 #[.pointer (some ⟨bx, 0, none⟩), .int .i64 (n : Int)] w fun e w' => e = .returned (.int .i64 0) ∧ TB w0 b bx m n l (Tk.shr n l2) B ob w' := by
  obtain ⟨g, g2, h1, h2, h3, h4, h5, h6, h7, h8⟩ := h
  refine (rresize_good w bx m2 n g2 l2 h2 hs hn).mono ?_
  rintro e w' ⟨rfl, hT, hO⟩
  exact ⟨rfl, TB.rtab h1 h2 h3 h4 h5 h6 h7 h8 hT hO (.inl rfl)⟩
theorem tb_size (h : TB w0 b bx m m2 l l2 B ob w) : Calls Try.prog 29 #[.pointer (some ⟨b, 0, none⟩)] w fun e w' => e = .returned (.int .i64 (Tk.sum l : Nat)) ∧ w = w' := by
  obtain ⟨g, g2, h1, _⟩ := h
  exact size_any w b _ m g l h1
theorem tb_most (h : TB w0 b bx m m2 l l2 B ob w) : Calls Try.prog 31 #[.pointer (some ⟨b, 0, none⟩)] w fun e w' => e = .returned (.int .i64 (m : Int)) ∧ w = w' := by
  obtain ⟨g, g2, h1, _⟩ := h
  exact most_any w b _ m g l h1
theorem tb_len (h : TB w0 b bx m m2 l l2 B ob w) : Calls Try.prog 32 #[.pointer (some ⟨b, 0, none⟩)] w fun e w' => e = .returned (.int .i64 (l.length : Int)) ∧ w = w' := by
  obtain ⟨g, g2, h1, _⟩ := h
  exact len_any w b _ m g l h1
theorem tb_rsize (h : TB w0 b bx m m2 l l2 B ob w) (hs : Tk.sum l2 ≤ 65536) : Calls Try.prog 30 #[.pointer (some ⟨bx, 0, none⟩)] w fun e w' => e = .returned (.int .i64 (Tk.sum l2 : Nat)) ∧ Below w.heap.size w w' := by
  obtain ⟨g, g2, h1, h2, _⟩ := h
  exact rsize_any w bx m2 g2 l2 h2 hs
theorem tb_find (h : TB w0 b bx m m2 l l2 B ob w) (hs : Tk.sum l ≤ 65536) (x y : ByteArray) (n : Nat) (is : Bool) (hr : Tk.find (x, y) (Tk.all l) 0 0 = (n, is)) : Calls Try.prog 27 #[.pointer (some ⟨b, 0, none⟩), .agg #[.string x, .string y]] w fun e w' => e = .returned (.tuple #[.int .i64 (n : Int), .bool is]) ∧ Below w.heap.size w w' := by
  obtain ⟨g, g2, h1, _⟩ := h
  exact find_any w b _ m g l x y (n, is) h1 hr (by have := count_le hs; omega)
theorem tb_rfind (h : TB w0 b bx m m2 l l2 B ob w) (hs : Tk.sum l2 ≤ 65536) (x y : ByteArray) (n : Nat) (is : Bool) (hr : Tk.find (x, y) (Tk.all l2) 0 0 = (n, is)) : Calls Try.prog 28 #[.pointer (some ⟨bx, 0, none⟩), .agg #[.string x, .string y]] w fun e w' => e = .returned (.tuple #[.int .i64 (n : Int), .bool is]) ∧ Below w.heap.size w w' := by
  obtain ⟨g, g2, h1, h2, _⟩ := h
  exact rfind_any w bx m2 g2 l2 x y (n, is) h2 hr (by have := count_le hs; omega)
theorem tb_at (h : TB w0 b bx m m2 l l2 B ob w) (i : Int) (x y : ByteArray) (is : Bool) (hr : Tk.at_ (Tk.all l) i = ((x, y), is)) (hi : i ≤ 9223372036854775807) : Calls Try.prog 10 #[.pointer (some ⟨b, 0, none⟩), .int .i64 i] w fun e w' => e = .returned (.tuple #[.agg #[.string x, .string y], .bool is]) ∧ Below w.heap.size w w' := by
  obtain ⟨g, g2, h1, _⟩ := h
  exact at_any w b _ m g l i (x, y) is h1 hr hi
theorem tb_rat (h : TB w0 b bx m m2 l l2 B ob w) (hs : Tk.sum l2 ≤ 65536) (i : Int) (x y : ByteArray) (is : Bool) (hr : Tk.at_ (Tk.all l2) i = ((x, y), is)) : Calls Try.prog 11 #[.pointer (some ⟨bx, 0, none⟩), .int .i64 i] w fun e w' => e = .returned (.tuple #[.agg #[.string x, .string y], .bool is]) ∧ Below w.heap.size w w' := by
  obtain ⟨g, g2, h1, h2, _⟩ := h
  exact rat_any w bx m2 g2 l2 i (x, y) is h2 hr (by have := count_le hs; omega)
/-- The reference's own cells. -/
theorem TB.cells (h : TB w0 b bx m m2 l l2 B ob w) : ∃ A c, w.cell? ⟨bx, 0, none⟩ = some (.int .i64 (m2 : Int)) ∧ w.cell? ⟨bx, 1, none⟩ = some (.slice A l2.length c) := by
  obtain ⟨g, g2, h1, ⟨v, hv, hb, hr⟩, _⟩ := h
  obtain ⟨A, c, rfl⟩ := own_slice hr
  exact ⟨A, c, cell_of_blk hb 0 _ rfl, cell_of_blk hb 1 _ rfl⟩
end
end Go.Proofs.Ytjdobemljghkbaa
