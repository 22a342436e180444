/- A field's representation: hpack's Encoder.field, walked. -/
import Derived.Test.YtmjibpjnhehnnaaKk
import Derived.Test.YtmjibpjnhehnnaaKc
import Derived.Test.YtmjibpjnhehnnaaPi
import Derived.Deep.LoopGhost
namespace Go.Proofs.Ytmjibpjnhehnnaa
open Go.RowKit
attribute [local go_sem ↓] Go.wp_at_zero Go.wp_at_succ

set_option maxRecDepth 100000 in
theorem numw_any (h bs m n : Nat) (hb1 : 1 ≤ bs) (hb8 : bs ≤ 8) (hh : h < 256) (hn : n ≤ 2147483647) (hm : m = 2 ^ bs) (h0 : h % m = 0) (w : World) :
    Calls Try.prog 32 #[.int .u8 (h : Int), .int .i64 (bs : Int), .int .i64 (n : Int)] w fun e w' => e = .returned (.string (strN (Pr.int h m n))) ∧ Below w.heap.size w w' := by
  have hI := int_good h bs n m w hb1 hb8 hh hn hm
  rw [show Pr.wInt h m n = (Pr.int h m n, 0) from if_pos h0] at hI
  have HI := Lib.hid hI
  clear hI h0 hm hn hh hb1 hb8
  go_enter Try.func32, Try.ntmps32
  go_wp2_with fail
  refine HI.out.mono ?_
  rintro e w2 ⟨rfl, hb⟩
  go_wp2
  go_ret
  exact ⟨rfl, hb⟩

/-- An encoder's cells. -/
def EB (b was least : Nat) : Array Value := #[.pointer (some ⟨b, 0, none⟩), .int .i64 (was : Int), .int .i64 (least : Int)]
def strsOf (l : List ByteArray) : Array Value := (l.map Value.string).toArray
/-- Within a field's coding: the table, the encoder, the field's box, the two lists of names. -/
structure Fk (w0 : World) (b e : Nat) (g : Option Nat) (was least m : Nat) (l : List Tk.Fd) (B : Nat) (x y : ByteArray) (w : World) : Prop where
  tab : Tab w b g l (Tk.sum l) m
  enc : w.heap[e]? = some (.cells (EB b was least) 65 (0, 0))
  box : w.heap[B]? = some (.cells #[.string x, .string y] 57 (0, 0))
  sec : w.heap[B + 1]? = some (.cells (strsOf Hk.secrets) 9 (0, 0))
  rar : w.heap[B + 1 + 1]? = some (.cells (strsOf Hk.rares) 9 (0, 0))
  bel : Below B w0 w
  size : w0.heap.size = B
section
variable {w0 w w' : World} {b e was least m B : Nat} {g : Option Nat} {l : List Tk.Fd} {x y : ByteArray}
theorem Fk.below (h : Fk w0 b e g was least m l B x y w) (hb : Below w.heap.size w w') : Fk w0 b e g was least m l B x y w' :=
  ⟨h.tab.below hb, (hb.block e (heap_lt h.enc)).trans h.enc, (hb.block B (heap_lt h.box)).trans h.box, (hb.block _ (heap_lt h.sec)).trans h.sec, (hb.block _ (heap_lt h.rar)).trans h.rar, h.bel.trans (hb.mono (Nat.le_of_lt (heap_lt h.box))), h.size⟩
theorem Fk.drew (h : Fk w0 b e g was least m l B x y w) : Fk w0 b e g was least m l B x y w.drew := h.below ⟨rfl, rfl, rfl, Nat.le_refl _, fun _ _ => rfl⟩
theorem Fk.cells (h : Fk w0 b e g was least m l B x y w) : w.cell? ⟨e, 0, none⟩ = some (.pointer (some ⟨b, 0, none⟩)) ∧ w.cell? ⟨B, 0, none⟩ = some (.string x) ∧ w.cell? ⟨B, 1, none⟩ = some (.string y) := ⟨bcell_of h.enc 0 _ rfl, bcell_of h.box 0 _ rfl, bcell_of h.box 1 _ rfl⟩
theorem strsOf_cell {k : Nat} {zs : List ByteArray} (h : w.heap[k]? = some (.cells (strsOf zs) 9 (0, 0))) : ∀ j, j < zs.length → w.cell? ⟨k, 0 + j, none⟩ = some (.string (zs.getD j ByteArray.empty)) := by
  intro j hj
  refine bcell_of h _ _ ?_
  rw [Nat.zero_add, strsOf, List.getElem?_toArray, List.getElem?_map, List.getElem?_eq_getElem hj, List.getD_eq_getElem?_getD, List.getElem?_eq_getElem hj]
  rfl
theorem Fk.secret (h : Fk w0 b e g was least m l B x y w) (c : Bool) (hc : Lib.containsS Hk.secrets x = c) : Calls Try.prog 52 #[.slice (some ⟨B + 1, 0, none⟩) 4 4, .string x] w fun e w' => e = .returned (.bool c) ∧ w = w' := by
  refine (sh_slices_Contains_string (B + 1) 0 4 4 Hk.secrets x w (by decide) (by omega) (strsOf_cell h.sec)).mono ?_
  rintro e w' ⟨rfl, rfl⟩
  exact ⟨by rw [← hc]; rfl, rfl⟩
theorem Fk.rare (h : Fk w0 b e g was least m l B x y w) (c : Bool) (hc : Lib.containsS Hk.rares x = c) : Calls Try.prog 52 #[.slice (some ⟨B + 1 + 1, 0, none⟩) 7 7, .string x] w fun e w' => e = .returned (.bool c) ∧ w = w' := by
  refine (sh_slices_Contains_string (B + 1 + 1) 0 7 7 Hk.rares x w (by decide) (by omega) (strsOf_cell h.rar)).mono ?_
  rintro e w' ⟨rfl, rfl⟩
  exact ⟨by rw [← hc]; rfl, rfl⟩
theorem Fk.find (h : Fk w0 b e g was least m l B x y w) (hs : Tk.sum l ≤ m) (hm : m ≤ 65536) (i : Nat) (wh : Bool) (hf : Tk.find (x, y) (Tk.all l) 0 0 = (i, wh)) : Calls Try.prog 50 #[.pointer (some ⟨b, 0, none⟩), .agg #[.string x, .string y]] w fun en w' => en = .returned (.tuple #[.int .i64 (i : Int), .bool wh]) ∧ Fk w0 b e g was least m l B x y w' := by
  refine (find_any w b _ m g l x y (i, wh) h.tab hf (by have := count_le hs; omega)).mono ?_
  rintro en w' ⟨rfl, hb⟩
  exact ⟨rfl, h.below hb⟩
theorem Fk.str (h : Fk w0 b e g was least m l B x y w) (z : ByteArray) (hz : z.size < 268435456) : Calls Try.prog 51 #[.string z] w fun en w' => en = .returned (.string (strN (Pr.str (nats z)))) ∧ Fk w0 b e g was least m l B x y w' := by
  refine (str_any z w (by omega)).mono ?_
  rintro en w' ⟨rfl, hb⟩
  exact ⟨rfl, h.below hb⟩
theorem Fk.num (h : Fk w0 b e g was least m l B x y w) (hi bs mm n : Nat) (hb1 : 1 ≤ bs) (hb8 : bs ≤ 8) (hh : hi < 256) (hn : n ≤ 2147483647) (hm : mm = 2 ^ bs) (h0 : hi % mm = 0) : Calls Try.prog 32 #[.int .u8 (hi : Int), .int .i64 (bs : Int), .int .i64 (n : Int)] w fun en w' => en = .returned (.string (strN (Pr.int hi mm n))) ∧ Fk w0 b e g was least m l B x y w' := by
  refine (numw_any hi bs mm n hb1 hb8 hh hn hm h0 w).mono ?_
  rintro en w' ⟨rfl, hb⟩
  exact ⟨rfl, h.below hb⟩
theorem Fk.only (h : Fk w0 b e g was least m l B x y w) : Added w0 b g l m w := ⟨g, h.tab, Only.of_below _ (by rw [h.size]; exact h.bel), .inl rfl⟩
end
theorem Added.pre {w w9 w10 : World} {b m : Nat} {g : Option Nat} {l : List Tk.Fd} (h1 : Only (RS b g) w w9) (h2 : Added w9 b g l m w10) : Added w b g l m w10 := by
  obtain ⟨g', hT, hO, hg⟩ := h2
  exact ⟨g', hT, h1.trans hO, hg.imp id (fun ⟨k, hk, hle⟩ => ⟨k, hk, Nat.le_trans h1.size hle⟩)⟩
theorem Added.below {w w9 w10 : World} {b m : Nat} {g : Option Nat} {l : List Tk.Fd} (h1 : Added w b g l m w9) (h2 : Below w9.heap.size w9 w10) : Added w b g l m w10 := by
  obtain ⟨g', hT, hO, hg⟩ := h1
  exact ⟨g', hT.below h2, hO.trans (Only.of_below _ h2), hg⟩
theorem texts_len (i : Nat) (x y : ByteArray) (h : Hk.Short (x, y)) : (Hk.texts i (x, y)).length ≤ 1073741824 := by
  obtain ⟨h1, h2⟩ := h
  simp only at h1 h2
  have e1 := Pr.str_len (nats x) (by rw [nats_length]; exact h1)
  have e2 := Pr.str_len (nats y) (by rw [nats_length]; exact h2)
  rw [nats_length] at e1 e2
  unfold Hk.texts
  rw [List.length_append]
  split
  · simp only; omega
  · simp only [List.length_nil]; omega
theorem run_cat (a b : List Nat) (h : a.length + b.length ≤ 9223372036854775807) (w : World) : (Op.stringOp .add (strN a) (strN b)).run Try.prog w = .ok (.string (strN (a ++ b))) w := by
  rw [run_string_add_sum (P := Try.prog) w (strN a) (strN b) (by rw [strN_size, strN_size]; exact h), strN_append]

set_option maxRecDepth 100000 in
set_option maxHeartbeats 8000000 in
theorem enfield_any (w : World) (b e : Nat) (g : Option Nat) (was least m : Nat) (l : List Tk.Fd) (x y : ByteArray) (hT : Tab w b g l (Tk.sum l) m) (he : w.heap[e]? = some (.cells (EB b was least) 65 (0, 0)))
    (hs : Tk.sum l ≤ m) (hm : m ≤ 65536) (hsh : Hk.Short (x, y)) :
    Calls Try.prog 33 #[.pointer (some ⟨e, 0, none⟩), .agg #[.string x, .string y]] w fun en w' => en = .returned (.string (strN (Hk.one m l (x, y)).1)) ∧ Added w b g (Hk.one m l (x, y)).2 m w' := by
  obtain ⟨i, wh, hf⟩ : ∃ i wh, Tk.find (x, y) (Tk.all l) 0 0 = (i, wh) := ⟨_, _, rfl⟩
  have hi := Hk.find_small (x, y) hs hm
  have hone : Hk.one m l (x, y) = if Lib.containsS Hk.secrets x = true then (Pr.int 16 16 i ++ Hk.texts i (x, y), l) else if wh = true then (Pr.int 128 128 i, l)
      else if Lib.containsS Hk.rares x = true ∨ m < Tk.wt (x, y) then (Pr.int 0 16 i ++ Hk.texts i (x, y), l) else (Pr.int 64 64 i ++ Hk.texts i (x, y), Tk.add m (x, y) l) := by
    unfold Hk.one
    simp only [hf]
  have htl := texts_len i x y hsh
  have hil := fun (h mm : Nat) => Pr.int_len h mm i (by rw [hf] at hi; simp only at hi; omega)
  rw [hf] at hi
  simp only at hi
  have HONE := Lib.hid hone
  have hfit : Fits (x, y) := ⟨by have := hsh.1; simp only at *; omega, by have := hsh.2; simp only at *; omega⟩
  have HX := Lib.hid hsh.1
  have HY := Lib.hid hsh.2
  have HF := Lib.hid hf
  clear hone hf hsh
  go_enter Try.func33, Try.ntmps33
  go_upto_region 3 with fail
  have hF : Fk w b e g was least m l w.heap.size x y (((w.alloc (.cells #[.string x, .string y] 57)).alloc (.cells #[.string ⟨#[97, 117, 116, 104, 111, 114, 105, 122, 97, 116, 105, 111, 110]⟩, .string ⟨#[99, 111, 111, 107, 105, 101]⟩, .string ⟨#[112, 114, 111, 120, 121, 45, 97, 117, 116, 104, 111, 114, 105, 122, 97, 116, 105, 111, 110]⟩, .string ⟨#[115, 101, 116, 45, 99, 111, 111, 107, 105, 101]⟩] 9)).alloc (.cells #[.string ⟨#[58, 112, 97, 116, 104]⟩, .string ⟨#[99, 111, 110, 116, 101, 110, 116, 45, 108, 101, 110, 103, 116, 104]⟩, .string ⟨#[99, 111, 110, 116, 101, 110, 116, 45, 114, 97, 110, 103, 101]⟩, .string ⟨#[100, 97, 116, 101]⟩, .string ⟨#[101, 116, 97, 103]⟩, .string ⟨#[108, 97, 115, 116, 45, 109, 111, 100, 105, 102, 105, 101, 100]⟩, .string ⟨#[108, 111, 99, 97, 116, 105, 111, 110]⟩] 9)) := by
    have hb1 : Below w.heap.size w (w.alloc (.cells #[.string x, .string y] 57)) := (Below.refl _ _).alloc (Nat.le_refl _) _
    have hb2 : Below (w.alloc (.cells #[.string x, .string y] 57)).heap.size (w.alloc (.cells #[.string x, .string y] 57)) (((w.alloc (.cells #[.string x, .string y] 57)).alloc (.cells #[.string ⟨#[97, 117, 116, 104, 111, 114, 105, 122, 97, 116, 105, 111, 110]⟩, .string ⟨#[99, 111, 111, 107, 105, 101]⟩, .string ⟨#[112, 114, 111, 120, 121, 45, 97, 117, 116, 104, 111, 114, 105, 122, 97, 116, 105, 111, 110]⟩, .string ⟨#[115, 101, 116, 45, 99, 111, 111, 107, 105, 101]⟩] 9)).alloc (.cells #[.string ⟨#[58, 112, 97, 116, 104]⟩, .string ⟨#[99, 111, 110, 116, 101, 110, 116, 45, 108, 101, 110, 103, 116, 104]⟩, .string ⟨#[99, 111, 110, 116, 101, 110, 116, 45, 114, 97, 110, 103, 101]⟩, .string ⟨#[100, 97, 116, 101]⟩, .string ⟨#[101, 116, 97, 103]⟩, .string ⟨#[108, 97, 115, 116, 45, 109, 111, 100, 105, 102, 105, 101, 100]⟩, .string ⟨#[108, 111, 99, 97, 116, 105, 111, 110]⟩] 9)) := ((Below.refl _ _).alloc (Nat.le_refl _) _).alloc (by simp) _
    have hb : Below w.heap.size w (((w.alloc (.cells #[.string x, .string y] 57)).alloc (.cells #[.string ⟨#[97, 117, 116, 104, 111, 114, 105, 122, 97, 116, 105, 111, 110]⟩, .string ⟨#[99, 111, 111, 107, 105, 101]⟩, .string ⟨#[112, 114, 111, 120, 121, 45, 97, 117, 116, 104, 111, 114, 105, 122, 97, 116, 105, 111, 110]⟩, .string ⟨#[115, 101, 116, 45, 99, 111, 111, 107, 105, 101]⟩] 9)).alloc (.cells #[.string ⟨#[58, 112, 97, 116, 104]⟩, .string ⟨#[99, 111, 110, 116, 101, 110, 116, 45, 108, 101, 110, 103, 116, 104]⟩, .string ⟨#[99, 111, 110, 116, 101, 110, 116, 45, 114, 97, 110, 103, 101]⟩, .string ⟨#[100, 97, 116, 101]⟩, .string ⟨#[101, 116, 97, 103]⟩, .string ⟨#[108, 97, 115, 116, 45, 109, 111, 100, 105, 102, 105, 101, 100]⟩, .string ⟨#[108, 111, 99, 97, 116, 105, 111, 110]⟩] 9)) := hb1.trans (hb2.mono (by simp))
    have hsz : ((w.alloc (.cells #[.string x, .string y] 57)).alloc (.cells #[.string ⟨#[97, 117, 116, 104, 111, 114, 105, 122, 97, 116, 105, 111, 110]⟩, .string ⟨#[99, 111, 111, 107, 105, 101]⟩, .string ⟨#[112, 114, 111, 120, 121, 45, 97, 117, 116, 104, 111, 114, 105, 122, 97, 116, 105, 111, 110]⟩, .string ⟨#[115, 101, 116, 45, 99, 111, 111, 107, 105, 101]⟩] 9)).heap.size = w.heap.size + 2 := by simp
    have hsz1 : (w.alloc (.cells #[.string x, .string y] 57)).heap.size = w.heap.size + 1 := by simp
    refine ⟨hT.below hb, (hb.block e (heap_lt he)).trans he, (hb2.block _ (by simp)).trans (heap_alloc_new w _), ?_, ?_, hb, rfl⟩
    · have h2 := heap_alloc_new (w.alloc (.cells #[.string x, .string y] 57)) (.cells #[.string ⟨#[97, 117, 116, 104, 111, 114, 105, 122, 97, 116, 105, 111, 110]⟩, .string ⟨#[99, 111, 111, 107, 105, 101]⟩, .string ⟨#[112, 114, 111, 120, 121, 45, 97, 117, 116, 104, 111, 114, 105, 122, 97, 116, 105, 111, 110]⟩, .string ⟨#[115, 101, 116, 45, 99, 111, 111, 107, 105, 101]⟩] 9)
      rw [hsz1] at h2
      have h3 : Below ((w.alloc (.cells #[.string x, .string y] 57)).alloc (.cells #[.string ⟨#[97, 117, 116, 104, 111, 114, 105, 122, 97, 116, 105, 111, 110]⟩, .string ⟨#[99, 111, 111, 107, 105, 101]⟩, .string ⟨#[112, 114, 111, 120, 121, 45, 97, 117, 116, 104, 111, 114, 105, 122, 97, 116, 105, 111, 110]⟩, .string ⟨#[115, 101, 116, 45, 99, 111, 111, 107, 105, 101]⟩] 9)).heap.size ((w.alloc (.cells #[.string x, .string y] 57)).alloc (.cells #[.string ⟨#[97, 117, 116, 104, 111, 114, 105, 122, 97, 116, 105, 111, 110]⟩, .string ⟨#[99, 111, 111, 107, 105, 101]⟩, .string ⟨#[112, 114, 111, 120, 121, 45, 97, 117, 116, 104, 111, 114, 105, 122, 97, 116, 105, 111, 110]⟩, .string ⟨#[115, 101, 116, 45, 99, 111, 111, 107, 105, 101]⟩] 9)) (((w.alloc (.cells #[.string x, .string y] 57)).alloc (.cells #[.string ⟨#[97, 117, 116, 104, 111, 114, 105, 122, 97, 116, 105, 111, 110]⟩, .string ⟨#[99, 111, 111, 107, 105, 101]⟩, .string ⟨#[112, 114, 111, 120, 121, 45, 97, 117, 116, 104, 111, 114, 105, 122, 97, 116, 105, 111, 110]⟩, .string ⟨#[115, 101, 116, 45, 99, 111, 111, 107, 105, 101]⟩] 9)).alloc (.cells #[.string ⟨#[58, 112, 97, 116, 104]⟩, .string ⟨#[99, 111, 110, 116, 101, 110, 116, 45, 108, 101, 110, 103, 116, 104]⟩, .string ⟨#[99, 111, 110, 116, 101, 110, 116, 45, 114, 97, 110, 103, 101]⟩, .string ⟨#[100, 97, 116, 101]⟩, .string ⟨#[101, 116, 97, 103]⟩, .string ⟨#[108, 97, 115, 116, 45, 109, 111, 100, 105, 102, 105, 101, 100]⟩, .string ⟨#[108, 111, 99, 97, 116, 105, 111, 110]⟩] 9)) := (Below.refl _ _).alloc (Nat.le_refl _) _
      exact ((h3.block _ (by rw [hsz]; omega)).trans h2).trans rfl
    · have h2 := heap_alloc_new ((w.alloc (.cells #[.string x, .string y] 57)).alloc (.cells #[.string ⟨#[97, 117, 116, 104, 111, 114, 105, 122, 97, 116, 105, 111, 110]⟩, .string ⟨#[99, 111, 111, 107, 105, 101]⟩, .string ⟨#[112, 114, 111, 120, 121, 45, 97, 117, 116, 104, 111, 114, 105, 122, 97, 116, 105, 111, 110]⟩, .string ⟨#[115, 101, 116, 45, 99, 111, 111, 107, 105, 101]⟩] 9)) (.cells #[.string ⟨#[58, 112, 97, 116, 104]⟩, .string ⟨#[99, 111, 110, 116, 101, 110, 116, 45, 108, 101, 110, 103, 116, 104]⟩, .string ⟨#[99, 111, 110, 116, 101, 110, 116, 45, 114, 97, 110, 103, 101]⟩, .string ⟨#[100, 97, 116, 101]⟩, .string ⟨#[101, 116, 97, 103]⟩, .string ⟨#[108, 97, 115, 116, 45, 109, 111, 100, 105, 102, 105, 101, 100]⟩, .string ⟨#[108, 111, 99, 97, 116, 105, 111, 110]⟩] 9)
      rw [hsz] at h2
      exact h2.trans rfl
  generalize ((w.alloc (.cells #[.string x, .string y] 57)).alloc (.cells #[.string ⟨#[97, 117, 116, 104, 111, 114, 105, 122, 97, 116, 105, 111, 110]⟩, .string ⟨#[99, 111, 111, 107, 105, 101]⟩, .string ⟨#[112, 114, 111, 120, 121, 45, 97, 117, 116, 104, 111, 114, 105, 122, 97, 116, 105, 111, 110]⟩, .string ⟨#[115, 101, 116, 45, 99, 111, 111, 107, 105, 101]⟩] 9)).alloc (.cells #[.string ⟨#[58, 112, 97, 116, 104]⟩, .string ⟨#[99, 111, 110, 116, 101, 110, 116, 45, 108, 101, 110, 103, 116, 104]⟩, .string ⟨#[99, 111, 110, 116, 101, 110, 116, 45, 114, 97, 110, 103, 101]⟩, .string ⟨#[100, 97, 116, 101]⟩, .string ⟨#[101, 116, 97, 103]⟩, .string ⟨#[108, 97, 115, 116, 45, 109, 111, 100, 105, 102, 105, 101, 100]⟩, .string ⟨#[108, 111, 99, 97, 116, 105, 111, 110]⟩] 9) = w3 at *
  generalize w.heap.size = B at *
  clear hT he
  obtain ⟨hc0, hc1, hc2⟩ := hF.cells
  have hF4 := hF.drew
  clear hF
  go_region_held3 (fun w' => w'.cell? ⟨e, 0, none⟩ = some (.pointer (some ⟨b, 0, none⟩)) ∧ w'.cell? ⟨B, 0, none⟩ = some (.string x) ∧ w'.cell? ⟨B, 1, none⟩ = some (.string y)) (first | exact ⟨hc0, hc1, hc2⟩ | exact hF5.cells) (first | (go_at_call 50; refine (hF4.find hs hm i wh HF.out).mono ?_; rintro en w5 ⟨rfl, hF5⟩))
  clear hc0 hc1 hc2
  clear hF4
  obtain ⟨hc0, hc1, hc2⟩ := hF5.cells
  go_wp2_with fail
  refine (hF5.str y HY.out).mono ?_
  rintro en w6 ⟨rfl, hF6⟩
  clear hF5 hc0 hc1 hc2
  go_upto_if 26 with fail
  go_cut [9] (fun s9 wx => s9 = .string (strN (Hk.texts i (x, y))) ∧ Fk w b e g was least m l B x y wx)
  case first =>
    by_cases hi0 : i = 0
    · have ht : Hk.texts i (x, y) = Pr.str (nats x) ++ Pr.str (nats y) := by unfold Hk.texts; rw [if_pos hi0]
      rw [ht] at htl
      have hcat := run_cat (Pr.str (nats x)) (Pr.str (nats y)) (by rw [List.length_append] at htl; omega)
      have HT := Lib.hid ht
      subst hi0
      clear ht
      obtain ⟨hc0, hc1, hc2⟩ := hF6.cells
      go_wp2_with fail
      refine (hF6.str x HX.out).mono ?_
      rintro en w7 ⟨rfl, hF7⟩
      go_wp2
      go_meet
      rw [HT.out]
      exact ⟨rfl, hF7⟩
    · have ht : Hk.texts i (x, y) = Pr.str (nats y) := by unfold Hk.texts; rw [if_neg hi0]; rfl
      have HT := Lib.hid ht
      have hiI : ((i : Int) == 0) = false := by rw [beq_eq_false_iff_ne]; omega
      clear ht hi0
      go_wp2
      go_meet
      rw [HT.out]
      exact ⟨rfl, hF6⟩
  case rest =>
    obtain ⟨rfl, hF7⟩ := hcut
    clear hF6
    generalize Hk.texts i (x, y) = T at *
    have hcat := fun h mm => run_cat (Pr.int h mm i) T (by have := hil h mm; omega)
    have HCAT := Lib.hid hcat
    clear hcat hil
    have hin : i ≤ 2147483647 := by omega
    obtain ⟨hc0, hc1, hc2⟩ := hF7.cells
    by_cases hsec : Lib.containsS Hk.secrets x = true
    · have HS := Lib.hid hsec
      clear hsec
      have hcat := HCAT.out 16 16
      go_wp2_with fail
      refine (hF7.secret true HS.out).mono ?_
      rintro en w8 ⟨rfl, rfl⟩
      go_wp2_with fail
      refine (hF7.num 16 4 16 i (by omega) (by omega) (by omega) hin rfl rfl).mono ?_
      rintro en w8 ⟨rfl, hF8⟩
      clear hc0 hc1 hc2
      go_wp2
      go_ret
      rw [HONE.out, if_pos HS.out]
      exact ⟨rfl, hF8.only⟩
    · have HS := Lib.hid hsec
      clear hsec
      go_wp2_with fail
      refine (hF7.secret false (by simpa using HS.out)).mono ?_
      rintro en w8 ⟨rfl, rfl⟩
      by_cases hwh : wh = true
      · subst hwh
        go_wp2_with fail
        refine (hF7.num 128 7 128 i (by omega) (by omega) (by omega) hin rfl rfl).mono ?_
        rintro en w8 ⟨rfl, hF8⟩
        clear hc0 hc1 hc2
        go_wp2
        go_ret
        rw [HONE.out, if_neg HS.out]
        first | rw [if_pos rfl] | rw [if_pos True.intro]
        exact ⟨rfl, hF8.only⟩
      · have hwf : wh = false := by simpa using hwh
        subst hwf
        have HONE2 : Hid (Hk.one m l (x, y) = if Lib.containsS Hk.rares x = true ∨ m < Tk.wt (x, y) then (Pr.int 0 16 i ++ T, l) else (Pr.int 64 64 i ++ T, Tk.add m (x, y) l)) := Lib.hid (by rw [HONE.out, if_neg HS.out, if_neg hwh])
        clear HONE HS hwh
        have hF8 := hF7.drew
        have hcat := HCAT.out 0 16
        by_cases hra : Lib.containsS Hk.rares x = true
        · have HR := Lib.hid hra
          clear hra
          have HRA := Lib.hid (fun n => show Calls Try.prog 52 #[.slice (some ⟨B + 1 + 1, 0, none⟩) 7 7, .string x] (wc.drewN n) (fun en w'' => en = .returned (.bool true) ∧ w'' = wc.drewN n) from
            ((hF7.below (w' := wc.drewN n) ⟨rfl, rfl, rfl, Nat.le_refl _, fun _ _ => rfl⟩).rare true HR.out).mono fun en w'' h => ⟨h.1, h.2.symm⟩)
          go_wp2
          go_quiet ((go_at_call 52; exact Calls.quiet_of_same (HRA.out _)))
          have hF9 := hF7.below (w' := wc.drewN nq) ⟨rfl, rfl, rfl, Nat.le_refl _, fun _ _ => rfl⟩
          clear hF7 hF8 hc0 hc1 hc2
          generalize wc.drewN nq = w9 at *
          go_wp2_with fail
          refine (hF9.num 0 4 16 i (by omega) (by omega) (by omega) hin rfl rfl).mono ?_
          rintro en w10 ⟨rfl, hF10⟩
          go_wp2
          go_ret
          rw [HONE2.out, if_pos (.inl HR.out)]
          exact ⟨rfl, hF10.only⟩
        · have HR := Lib.hid hra
          have hrf : Lib.containsS Hk.rares x = false := by simpa using hra
          have HRF := Lib.hid hrf
          clear hra hrf
          have HWT := Lib.hid (fun w => weight_any w x y hfit)
          go_wp2
          go_region_held3 (fun w' => w'.cell? ⟨e, 0, none⟩ = some (.pointer (some ⟨b, 0, none⟩)) ∧ w'.cell? ⟨B, 0, none⟩ = some (.string x) ∧ w'.cell? ⟨B, 1, none⟩ = some (.string y)) (first | exact ⟨hc0, hc1, hc2⟩ | exact hF8.cells | exact hF9.cells) (first | (go_at_call 52; refine (hF8.rare false HRF.out).mono ?_; rintro en w8 ⟨rfl, rfl⟩) | (go_at_call 53; refine (HWT.out _).mono ?_; rintro en w9 ⟨rfl, hb9⟩; have hF9 := hF8.below hb9) | (go_at_call 30; refine (room_any _ e b _ m g l (by first | exact hF8.tab | exact hF9.tab) (by first | exact hF8.cells.1 | exact hF9.cells.1)).mono ?_; rintro en w10 ⟨rfl, rfl⟩))
          all_goals
            clear hF7 hF8 hc0 hc1 hc2 hb9 HWT
            by_cases hlw : m < Tk.wt (x, y)
            · have hdl : decide (m < Tk.wt (x, y)) = true := decide_eq_true hlw
              rw [hdl]
              have HLW := Lib.hid hlw
              clear hdl hlw
              go_wp2_with fail
              refine (hF9.num 0 4 16 i (by omega) (by omega) (by omega) hin rfl rfl).mono ?_
              rintro en w10 ⟨rfl, hF10⟩
              go_wp2
              go_ret
              rw [HONE2.out, if_pos (.inr HLW.out)]
              exact ⟨rfl, hF10.only⟩
            · have hdl : decide (m < Tk.wt (x, y)) = false := decide_eq_false hlw
              rw [hdl]
              have HLW := Lib.hid hlw
              clear hdl hlw
              have hcat2 := HCAT.out 64 64
              obtain ⟨hc0, hc1, hc2⟩ := hF9.cells
              go_wp2
              have hF9d := hF9.drew
              go_region_law (first | (go_simp; go_at_call 54; refine (add_any _ b g l m x y hF9d.tab hs hm hfit).mono ?_; rintro en w11 ⟨rfl, hA⟩))
              all_goals
                have hA2 := Added.pre (Only.of_below (RS b g) (by rw [hF9d.size]; exact hF9d.bel)) hA
                clear hc0 hc1 hc2 hF9 hF9d hA
                go_wp2_with fail
                refine (numw_any 64 6 64 i (by omega) (by omega) (by omega) hin rfl rfl w11).mono ?_
                rintro en w12 ⟨rfl, hb12⟩
                go_wp2
                go_ret
                rw [HONE2.out, if_neg (fun h => h.elim HR.out HLW.out)]
                exact ⟨rfl, hA2.below hb12⟩
end Go.Proofs.Ytmjibpjnhehnnaa
