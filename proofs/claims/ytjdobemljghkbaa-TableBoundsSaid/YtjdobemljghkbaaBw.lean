/- What a table holds is never heavier than its room: walked whole. -/
import Derived.Test.YtjdobemljghkbaaTp
import Derived.Deep.Slices
namespace Go.Proofs.Ytjdobemljghkbaa
open Go.RowKit
attribute [local go_sem ↓] Go.wp_at_zero Go.wp_at_succ

theorem find_law (f : Tk.Fd) (L : List Tk.Fd) : ∀ (d i named : Nat), L.length - i = d → (named = 0 ∨ (1 ≤ named ∧ named ≤ L.length ∧ (L.getD (named - 1) Tk.nil).1 = f.1 ∧ L.getD (named - 1) Tk.nil ≠ f)) →
    ((Tk.find f (L.drop i) i named).2 = true ∧ 1 ≤ (Tk.find f (L.drop i) i named).1 ∧ (Tk.find f (L.drop i) i named).1 ≤ L.length ∧ L.getD ((Tk.find f (L.drop i) i named).1 - 1) Tk.nil = f) ∨
    ((Tk.find f (L.drop i) i named).2 = false ∧ ((Tk.find f (L.drop i) i named).1 = 0 ∨ (1 ≤ (Tk.find f (L.drop i) i named).1 ∧ (Tk.find f (L.drop i) i named).1 ≤ L.length ∧ (L.getD ((Tk.find f (L.drop i) i named).1 - 1) Tk.nil).1 = f.1 ∧ L.getD ((Tk.find f (L.drop i) i named).1 - 1) Tk.nil ≠ f))) := by
  intro d
  induction d with
  | zero =>
    intro i named hd hn
    rw [Tk.find_end f L i named (by omega)]
    exact .inr ⟨rfl, hn⟩
  | succ d ih =>
    intro i named hd hn
    rw [Tk.find_step f L i named (by omega)]
    by_cases he : L.getD i Tk.nil = f
    · rw [if_pos he]
      exact .inl ⟨rfl, by simp, by simp; omega, by simpa using he⟩
    · rw [if_neg he]
      by_cases hc : named = 0 ∧ (L.getD i Tk.nil).1 = f.1
      · rw [if_pos hc]
        exact ih (i + 1) (i + 1) (by omega) (.inr ⟨by omega, by omega, by simpa using hc.2, by simpa using he⟩)
      · rw [if_neg hc]
        exact ih (i + 1) named (by omega) hn
theorem at_get (L : List Tk.Fd) (q : Nat) (h1 : 1 ≤ q) (h2 : q ≤ L.length) : Tk.at_ L (q : Int) = (L.getD (q - 1) Tk.nil, true) := by
  obtain ⟨k, rfl⟩ : ∃ k, q = k + 1 := ⟨q - 1, by omega⟩
  exact at_here L k (by omega)
theorem found (s t : ByteArray) (L : List Tk.Fd) (q : Nat) (is : Bool) (h : Tk.find (s, t) L 0 0 = (q, is)) :
    (is = true ∧ 1 ≤ q ∧ Tk.at_ L (q : Int) = ((s, t), true)) ∨ (is = false ∧ q = 0 ∧ Tk.at_ L (q : Int) = ((⟨#[]⟩, ⟨#[]⟩), false)) ∨ (is = false ∧ 1 ≤ q ∧ ∃ y, y ≠ t ∧ Tk.at_ L (q : Int) = ((s, y), true)) := by
  have H := find_law (s, t) L (L.length - 0) 0 0 rfl (.inl rfl)
  rw [List.drop_zero, h] at H
  rcases H with ⟨rfl, h1, h2, h3⟩ | ⟨rfl, rfl | ⟨h1, h2, h3, h4⟩⟩
  · simp only at h1 h2 h3
    exact .inl ⟨rfl, h1, by rw [at_get L q h1 h2, h3]⟩
  · exact .inr (.inl ⟨rfl, rfl, at_low (.inl (by decide))⟩)
  · simp only at h1 h2 h3 h4
    refine .inr (.inr ⟨rfl, h1, (L.getD (q - 1) Tk.nil).2, fun e => h4 (Prod.ext h3 e), ?_⟩)
    rw [at_get L q h1 h2, ← h3]
theorem found_le (s t : ByteArray) (L : List Tk.Fd) (q : Nat) (is : Bool) (h : Tk.find (s, t) L 0 0 = (q, is)) : q ≤ L.length := by
  have H := find_law (s, t) L (L.length - 0) 0 0 rfl (.inl rfl)
  rw [List.drop_zero, h] at H
  rcases H with ⟨_, _, h2, _⟩ | ⟨_, h1 | ⟨_, h2, _⟩⟩
  · exact h2
  · simp only at h1; omega
  · exact h2
theorem at_dyn (l : List Tk.Fd) (j : Nat) (h : j < l.length) : Tk.at_ (Tk.all l) ((62 + j : Nat) : Int) = (l.getD j Tk.nil, true) := by
  rw [at_get _ _ (by omega) (by rw [Tk.all_length]; omega), show 62 + j - 1 = 61 + j by omega, Tk.all_dyn]
theorem at_past (l : List Tk.Fd) : Tk.at_ (Tk.all l) ((62 + l.length : Nat) : Int) = ((⟨#[]⟩, ⟨#[]⟩), false) := at_low (.inr (by rw [Tk.all_length]; omega))
theorem sum_take_succ (l : List Tk.Fd) (j : Nat) (h : j < l.length) : Tk.sum (l.take (j + 1)) = Tk.sum (l.take j) + Tk.wt (l.getD j Tk.nil) := by
  rw [List.take_succ_eq_append_getElem h, Tk.sum_append, List.getD_eq_getElem?_getD, List.getElem?_eq_getElem h]
  simp [Tk.sum]
theorem take_sum_le (l : List Tk.Fd) (j : Nat) : Tk.sum (l.take j) ≤ Tk.sum l := by
  have := Tk.sum_append (l.take j) (l.drop j)
  rw [List.take_append_drop] at this
  omega

/-- A table and the box of the call. -/
def TO (w0 : World) (b m : Nat) (l : List Tk.Fd) (B : Nat) (ob : Obj) (w : World) : Prop :=
  ∃ g, Tab w b g l (Tk.sum l) m ∧ (∀ k, g = some k → b < k ∧ k ≠ B) ∧ b < B ∧ w.heap[B]? = some ob ∧ Below b w0 w
/-- The same without the box. -/
def TS (w0 : World) (b m : Nat) (l : List Tk.Fd) (w : World) : Prop := ∃ g, Tab w b g l (Tk.sum l) m ∧ (∀ k, g = some k → b < k) ∧ Below b w0 w
section
variable {w0 w w' : World} {b m : Nat} {l : List Tk.Fd} {B : Nat} {ob : Obj}
theorem TO.forget (h : TO w0 b m l B ob w) : TS w0 b m l w := by
  obtain ⟨g, h1, h2, _, _, h5⟩ := h
  exact ⟨g, h1, fun k hk => (h2 k hk).1, h5⟩
theorem TS.box (h : TS w0 b m l w) (ob : Obj) : TO w0 b m l w.heap.size ob (w.alloc ob) := by
  obtain ⟨g, h1, h2, h5⟩ := h
  have hB : Below w.heap.size w (w.alloc ob) := (Below.refl _ _).alloc (Nat.le_refl _) _
  have l1 := h1.lt
  exact ⟨g, h1.below hB, fun k hk => ⟨h2 k hk, by have := (l1.2 k hk).1; omega⟩, l1.1, heap_alloc_new w ob, belB h5 (by omega) hB⟩
theorem TO.below (h : TO w0 b m l B ob w) (hb : Below w.heap.size w w') : TO w0 b m l B ob w' := by
  obtain ⟨g, h1, h2, h3, h4, h5⟩ := h
  have l1 := h1.lt
  exact ⟨g, h1.below hb, h2, h3, (hb.block B (heap_lt h4)).trans h4, belB h5 (by omega) hb⟩
theorem TO.blk (h : TO w0 b m l B ob w) : w.heap[B]? = some ob := by obtain ⟨g, h1, h2, h3, h4, h5⟩ := h; exact h4
theorem TO.tab {m' : Nat} {l' : List Tk.Fd} {g g' : Option Nat} (h1 : Tab w b g l (Tk.sum l) m) (h2 : ∀ k, g = some k → b < k ∧ k ≠ B) (h3 : b < B) (h4 : w.heap[B]? = some ob) (h5 : Below b w0 w)
    (hT : Tab w' b g' l' (Tk.sum l') m') (hO : Only (RS b g) w w') (hg : g' = g ∨ ∃ k, g' = some k ∧ w.heap.size ≤ k) : TO w0 b m' l' B ob w' := by
  have l1 := h1.lt
  have l4 := heap_lt h4
  refine ⟨g', hT, ?_, h3, hO.block' h4 ?_, only_from h5 hO ?_ (by omega)⟩
  · intro k hk
    rcases hg with rfl | ⟨k', hk', hle⟩
    · exact h2 k hk
    · rw [hk] at hk'; injection hk' with hk'; omega
  · rintro (e | e)
    · omega
    · exact (h2 B e).2 rfl
  · rintro k (e | e)
    · omega
    · have := (h2 k e).1; omega
theorem o_add (h : TO w0 b m l B ob w) (hs : Tk.sum l ≤ m) (hm : m ≤ 65536) (x y : ByteArray) (hf : Fits (x, y)) : Calls Try.prog 23 #[.pointer (some ⟨b, 0, none⟩), .agg #[.string x, .string y]] w fun e w' => e = .returned (.tuple #[]) ∧ TO w0 b m (Tk.add m (x, y) l) B ob w' := by
  obtain ⟨g, h1, h2, h3, h4, h5⟩ := h
  refine (add_any w b g l m x y h1 hs hm hf).mono ?_
  rintro e w' ⟨rfl, g', hT, hO, hg⟩
  exact ⟨rfl, TO.tab h1 h2 h3 h4 h5 hT hO hg⟩
theorem o_resize (h : TO w0 b m l B ob w) (hs : Tk.sum l ≤ 65536) (n : Nat) (hn : n ≤ 65536) : Calls Try.prog 25 #[.pointer (some ⟨b, 0, none⟩), .int .i64 (n : Int)] w fun e w' => e = .returned (.int .i64 0) ∧ TO w0 b n (Tk.shr n l) B ob w' := by
  obtain ⟨g, h1, h2, h3, h4, h5⟩ := h
  refine (resize_good w b g l m n h1 hs hn).mono ?_
  rintro e w' ⟨rfl, hT, hO⟩
  exact ⟨rfl, TO.tab h1 h2 h3 h4 h5 hT hO (.inl rfl)⟩
theorem o_size (h : TO w0 b m l B ob w) : Calls Try.prog 29 #[.pointer (some ⟨b, 0, none⟩)] w fun e w' => e = .returned (.int .i64 (Tk.sum l : Nat)) ∧ w = w' := by
  obtain ⟨g, h1, _⟩ := h
  exact size_any w b _ m g l h1
theorem o_most (h : TO w0 b m l B ob w) : Calls Try.prog 31 #[.pointer (some ⟨b, 0, none⟩)] w fun e w' => e = .returned (.int .i64 (m : Int)) ∧ w = w' := by
  obtain ⟨g, h1, _⟩ := h
  exact most_any w b _ m g l h1
theorem o_len (h : TO w0 b m l B ob w) : Calls Try.prog 32 #[.pointer (some ⟨b, 0, none⟩)] w fun e w' => e = .returned (.int .i64 (l.length : Int)) ∧ w = w' := by
  obtain ⟨g, h1, _⟩ := h
  exact len_any w b _ m g l h1
theorem o_find (h : TO w0 b m l B ob w) (hs : Tk.sum l ≤ 65536) (x y : ByteArray) (n : Nat) (is : Bool) (hr : Tk.find (x, y) (Tk.all l) 0 0 = (n, is)) : Calls Try.prog 27 #[.pointer (some ⟨b, 0, none⟩), .agg #[.string x, .string y]] w fun e w' => e = .returned (.tuple #[.int .i64 (n : Int), .bool is]) ∧ Below w.heap.size w w' := by
  obtain ⟨g, h1, _⟩ := h
  exact find_any w b _ m g l x y (n, is) h1 hr (by have := count_le hs; omega)
theorem o_at (h : TO w0 b m l B ob w) (i : Int) (x y : ByteArray) (is : Bool) (hr : Tk.at_ (Tk.all l) i = ((x, y), is)) (hi : i ≤ 9223372036854775807) : Calls Try.prog 10 #[.pointer (some ⟨b, 0, none⟩), .int .i64 i] w fun e w' => e = .returned (.tuple #[.agg #[.string x, .string y], .bool is]) ∧ Below w.heap.size w w' := by
  obtain ⟨g, h1, _⟩ := h
  exact at_any w b _ m g l i (x, y) is h1 hr hi
end
theorem Addr.add_lit3 (y : Addr) (j : Nat) (hj : j ≠ 0) : y.add j = ⟨y.block, y.off + j, none⟩ := by
  cases j with
  | zero => exact absurd rfl hj
  | succ j => simp [Addr.add]

set_option maxRecDepth 100000 in
set_option maxHeartbeats 4000000 in
theorem bounds_bad (w : World) (n : Int) (hn : n < 0 ∨ 65536 < n) (a : Option Addr) (len cap : Nat) : Calls Try.prog 6 #[.int .i64 n, .slice a len cap] w fun e w' => e = .returned (.bool true) ∧ Below w.heap.size w w' := by
  go_enter Try.func6, Try.ntmps6
  go_wp2_with fail
  refine (new_bad w n hn).mono ?_
  rintro e w1 ⟨rfl, rfl⟩
  go_wp2_with fail
  refine (awake_true w).mono ?_
  rintro e w1 ⟨rfl, hb⟩
  by_cases h0 : n < 0
  · clear hn
    go_wp2
    go_ret
    exact ⟨rfl, hb⟩
  · have h1 : 65536 < n := by omega
    clear hn
    go_wp2
    go_ret
    exact ⟨rfl, hb⟩

set_option maxRecDepth 100000 in
set_option maxHeartbeats 8000000 in
theorem bounds_good (w : World) (n : Nat) (hn : n ≤ 65536) (a : Option Addr) (len cap : Nat) (hlen : len * 48 ≤ 140737488351232) (hc : ∀ i, i < len → CallAt w a i) : Calls Try.prog 6 #[.int .i64 (n : Int), .slice a len cap] w fun e w' => e = .returned (.bool true) ∧ Below w.heap.size w w' := by
  go_enter Try.func6, Try.ntmps6
  go_wp2_with fail
  refine (new_good w n hn).mono ?_
  rintro e w1 ⟨rfl, hb1, hz1, hT1⟩
  have hP : TS w w.heap.size n [] w1 := ⟨none, hT1, (fun k hk => by cases hk), hb1⟩
  generalize hbb : w.heap.size = b at *
  have HBB := Lib.hid hbb
  clear hbb hb1 hT1 hz1
  go_wp2
  go_loopw [7] (fun i wr => ∃ (k m : Nat) (l : List Tk.Fd), k ≤ len ∧ i = .int .i64 k ∧ Tk.sum l ≤ m ∧ m ≤ 65536 ∧ TS w b m l wr) (fun i _ => len - (intOf i).toNat)
  case atStart => exact ⟨0, n, [], Nat.zero_le _, rfl, Nat.zero_le _, hn, hP⟩
  case round =>
    clear hP hn
    obtain ⟨wz, rfl⟩ : ∃ wz, wz = wr := ⟨wr, rfl⟩
    obtain ⟨k, m, l, hk, rfl, hs, hm, hP⟩ := hrel
    have hs64 : Tk.sum l ≤ 65536 := by omega
    by_cases hlt : k < len
    · obtain ⟨x, rfl, hxb, wh, n, s, t, ⟨hw0, hw1⟩, ⟨hn0, hn1⟩, hfit, hcA, hcB, hcC, hcD⟩ := hc k hlt
      have HC := Lib.hid hc
      have hbel : Below b w wz := by obtain ⟨_, _, _, h⟩ := hP; exact h
      rw [HBB.out] at hxb
      have hcA' := (hbel.cell (p := x.add (k * 4)) (by rw [add_block]; exact hxb)).trans hcA
      have hcB' := (hbel.cell (p := x.add (k * 4 + 1)) (by rw [add_block]; exact hxb)).trans hcB
      have hcC' := (hbel.cell (p := x.add (k * 4 + 2)) (by rw [add_block]; exact hxb)).trans hcC
      have hcD' := (hbel.cell (p := x.add (k * 4 + 3)) (by rw [add_block]; exact hxb)).trans hcD
      rw [← Go.Deep.add_add x (k * 4) 1, Addr.add_lit3 _ 1 (by decide)] at hcB'
      rw [← Go.Deep.add_add x (k * 4) 2, Addr.add_lit3 _ 2 (by decide)] at hcC'
      rw [← Go.Deep.add_add x (k * 4) 3, Addr.add_lit3 _ 3 (by decide)] at hcD'
      clear hc hcA hcB hcC hcD hbel
      have hkc : (0 : Int) ≤ (k : Int) := by omega
      have hm2 : wh % 2 = 0 ∨ wh % 2 = 1 := by omega
      have hP0 := hP.box (.cells #[.int .u8 wh, .int .i64 n, .string s, .string t] 52)
      clear hP
      go_upto_region 8 with fail
      clear hcA' hcB' hcC' hcD' hxb
      generalize wz.alloc (.cells #[.int .u8 wh, .int .i64 n, .string s, .string t] 52) = w1 at *
      generalize wz.heap.size = B at *
      have HX := Lib.hid hP0.blk
      have hb0 : w1.cell? ⟨B, 0, none⟩ = some (.int .u8 wh) := cell_of_blk HX.out 0 _ rfl
      have hb1 : w1.cell? ⟨B, 1, none⟩ = some (.int .i64 n) := cell_of_blk HX.out 1 _ rfl
      have hb2 : w1.cell? ⟨B, 2, none⟩ = some (.string s) := cell_of_blk HX.out 2 _ rfl
      have hb3 : w1.cell? ⟨B, 3, none⟩ = some (.string t) := cell_of_blk HX.out 3 _ rfl
      rcases hm2 with hm2 | hm2
      · have hm2n : wh.tmod 2 = 0 := (Int.tmod_eq_emod_of_nonneg hw0).trans hm2
        go_wp2_with fail
        refine (o_add hP0 hs hm s t hfit).mono ?_
        rintro e w3 ⟨rfl, hP3⟩
        have hs' := Tk.add_sum m (s, t) l
        generalize Tk.add m (s, t) l = l' at *
        have hs64' : Tk.sum l' ≤ 65536 := by omega
        clear hb0 hb1 hb2 hb3 HX hP0
        clear hm2 hm2n hw0 hw1 hn0 hn1
        have hl := count_le hs64'
        go_upto_region 13 with fail
        clear wz
        go_loopw [9, 10] (fun i9 i10 wr => ∃ j : Nat, j ≤ (l').length ∧ i9 = .int .i64 (Tk.sum ((l').take j) : Nat) ∧ i10 = .int .i64 (j : Int) ∧ TO w b m l' B (.cells #[.int .u8 wh, .int .i64 n, .string s, .string t] 52) wr) (fun _ i10 _ => (l').length - (intOf i10).toNat)
        case atStart => exact ⟨0, Nat.zero_le _, rfl, rfl, hP3⟩
        case round =>
          clear hP3
          obtain ⟨j, hj, rfl, rfl, hQ⟩ := hrel
          go_wp2_with fail
          refine (o_len hQ).mono ?_
          rintro e wq ⟨rfl, rfl⟩
          by_cases hjl : j < (l').length
          · have hat := at_dyn l' j hjl
            have hsum := sum_take_succ l' j hjl
            have hle := take_sum_le l' (j + 1)
            have hft : Fits ((l').getD j Tk.nil) := fits_of_sum hs' hm (by rw [List.getD_eq_getElem?_getD, List.getElem?_eq_getElem hjl]; exact List.getElem_mem hjl)
            have hjI : (j : Int) < ((l').length : Int) := by omega
            generalize (l').getD j Tk.nil = f at *
            obtain ⟨y, z⟩ := f
            have hw62 : IntKind.i64.wrap (62 + (j : Int)) = ((62 + j : Nat) : Int) := by rw [IntWalk.i64_in _ (by omega)]; omega
            go_wp2_with fail
            clear hw62
            refine (o_at hQ _ y z true hat (by omega)).mono ?_
            rintro e v2 ⟨rfl, hd2⟩
            have hQ2 := hQ.below hd2
            clear hQ hd2 hat
            go_upto_region 16 with fail
            have hd3 : Below v2.heap.size v2 (v2.alloc (.cells #[.string y, .string z] 30)) := (Below.refl _ _).alloc (Nat.le_refl _) _
            have hy3 := heap_alloc_new v2 (.cells #[.string y, .string z] 30)
            have hQ3 := hQ2.below hd3
            clear hQ2 hd3
            generalize v2.alloc (.cells #[.string y, .string z] 30) = v3 at *
            generalize v2.heap.size = B3 at *
            have hc0 : v3.cell? ⟨B3, 0, none⟩ = some (.string y) := cell_of_blk hy3 0 _ rfl
            have hc1 : v3.cell? ⟨B3, 1, none⟩ = some (.string z) := cell_of_blk hy3 1 _ rfl
            clear hy3
            go_wp2_with fail
            refine (weight_any _ y z hft).mono ?_
            rintro e v4 ⟨rfl, hd4⟩
            have hQ4 := hQ3.below hd4
            clear hQ3 hd4 hc0 hc1 hft
            have hadd : IntKind.i64.wrap (((Tk.sum ((l').take j) : Nat) : Int) + ((Tk.wt (y, z) : Nat) : Int)) = ((Tk.sum ((l').take (j + 1)) : Nat) : Int) := by rw [hsum, IntWalk.i64_in _ (by omega)]; omega
            clear hsum hle
            go_wp2
            refine ⟨⟨j + 1, by omega, ?_, by go_num, hQ4⟩, ?_⟩
            · first | rfl | (rw [hadd])
            · simp [intOf]
              omega
          · have hje : j = (l').length := by omega
            subst hje
            clear hjl hj
            rw [List.take_length]
            have hw62 : IntKind.i64.wrap (62 + (((l').length : Nat) : Int)) = ((62 + (l').length : Nat) : Int) := by rw [IntWalk.i64_in _ (by omega)]; omega
            go_wp2_with fail
            refine (o_len hQ).mono ?_
            rintro e wq ⟨rfl, rfl⟩
            go_wp2_with fail
            clear hw62
            refine (o_at hQ _ ⟨#[]⟩ ⟨#[]⟩ false (at_past l') (by omega)).mono ?_
            rintro e v2 ⟨rfl, hd2⟩
            have hQ2 := hQ.below hd2
            clear hQ hd2
            go_upto_region 20 with fail
            have hQ3 := hQ2.below (w' := v2.alloc (.cells #[.string ⟨#[]⟩, .string ⟨#[]⟩] 30)) ((Below.refl _ _).alloc (Nat.le_refl _) _)
            clear hQ2
            generalize v2.alloc (.cells #[.string ⟨#[]⟩, .string ⟨#[]⟩] 30) = v3 at *
            generalize v2.heap.size = B3 at *
            go_wp2_with fail
            refine (o_size hQ3).mono ?_
            rintro e wq ⟨rfl, rfl⟩
            have hsI : ¬ ((m : Nat) : Int) < ((Tk.sum l' : Nat) : Int) := by omega
            go_wp2_with fail
            refine (o_most hQ3).mono ?_
            rintro e wq ⟨rfl, rfl⟩
            have hmI : ¬ (65536 : Int) < ((m : Nat) : Int) := by omega
            go_wp2_with fail
            refine (o_most hQ3).mono ?_
            rintro e wq ⟨rfl, rfl⟩
            have hx2 : v3.cell? ⟨B, 2, none⟩ = some (.string s) := cell_of_blk hQ3.blk 2 _ rfl
            have hx3 : v3.cell? ⟨B, 3, none⟩ = some (.string t) := cell_of_blk hQ3.blk 3 _ rfl
            obtain ⟨q, is, hq⟩ : ∃ q is, Tk.find (s, t) (Tk.all l') 0 0 = (q, is) := ⟨_, _, rfl⟩
            have hq9 : (q : Int) ≤ 9223372036854775807 := by
              have := found_le s t _ q is hq
              rw [Tk.all_length] at this
              omega
            go_wp2_with fail
            refine (o_find hQ3 hs64' s t q is hq).mono ?_
            rintro e v4 ⟨rfl, hd4⟩
            have hQ4 := hQ3.below hd4
            clear hQ3 hd4 hx2 hx3 hsI hmI
            rcases found s t _ q is hq with ⟨rfl, hq1, hat⟩ | ⟨rfl, rfl, hat⟩ | ⟨rfl, hq1, y, hyt, hat⟩
            · clear hq
              have hqI : (0 : Int) < (q : Int) := by omega
              have hqJ : ¬ (q : Int) = 0 := by omega
              go_wp2_with fail
              refine (o_at hQ4 _ s t true hat (by omega)).mono ?_
              rintro e v5 ⟨rfl, hd5⟩
              have hQ5 := hQ4.below hd5
              clear hQ4 hd5 hat
              go_upto_region 24 with fail
              have hd6 : Below v5.heap.size v5 (v5.alloc (.cells #[.string s, .string t] 30)) := (Below.refl _ _).alloc (Nat.le_refl _) _
              have hy6 := heap_alloc_new v5 (.cells #[.string s, .string t] 30)
              have hQ6 := hQ5.below hd6
              clear hQ5 hd6
              generalize v5.alloc (.cells #[.string s, .string t] 30) = v6 at *
              generalize v5.heap.size = B6 at *
              have hc0 : v6.cell? ⟨B6, 0, none⟩ = some (.string s) := cell_of_blk hy6 0 _ rfl
              have hc1 : v6.cell? ⟨B6, 1, none⟩ = some (.string t) := cell_of_blk hy6 1 _ rfl
              have hx2 : v6.cell? ⟨B, 2, none⟩ = some (.string s) := cell_of_blk hQ6.blk 2 _ rfl
              have hx3 : v6.cell? ⟨B, 3, none⟩ = some (.string t) := cell_of_blk hQ6.blk 3 _ rfl
              clear hy6
              go_wp2
              refine ⟨⟨k + 1, m, l', by omega, by go_num, hs', hm, hQ6.forget⟩, ?_⟩
              simp [intOf]
              omega
            · clear hq
              go_wp2_with fail
              refine (o_at hQ4 _ ⟨#[]⟩ ⟨#[]⟩ false hat (by omega)).mono ?_
              rintro e v5 ⟨rfl, hd5⟩
              have hQ5 := hQ4.below hd5
              clear hQ4 hd5 hat
              go_upto_region 24 with fail
              have hd6 : Below v5.heap.size v5 (v5.alloc (.cells #[.string ⟨#[]⟩, .string ⟨#[]⟩] 30)) := (Below.refl _ _).alloc (Nat.le_refl _) _
              have hy6 := heap_alloc_new v5 (.cells #[.string ⟨#[]⟩, .string ⟨#[]⟩] 30)
              have hQ6 := hQ5.below hd6
              clear hQ5 hd6
              generalize v5.alloc (.cells #[.string ⟨#[]⟩, .string ⟨#[]⟩] 30) = v6 at *
              generalize v5.heap.size = B6 at *
              have hc0 : v6.cell? ⟨B6, 0, none⟩ = some (.string ⟨#[]⟩) := cell_of_blk hy6 0 _ rfl
              have hc1 : v6.cell? ⟨B6, 1, none⟩ = some (.string ⟨#[]⟩) := cell_of_blk hy6 1 _ rfl
              have hx2 : v6.cell? ⟨B, 2, none⟩ = some (.string s) := cell_of_blk hQ6.blk 2 _ rfl
              have hx3 : v6.cell? ⟨B, 3, none⟩ = some (.string t) := cell_of_blk hQ6.blk 3 _ rfl
              clear hy6
              go_wp2
              refine ⟨⟨k + 1, m, l', by omega, by go_num, hs', hm, hQ6.forget⟩, ?_⟩
              simp [intOf]
              omega
            · clear hq
              have hyl := toList_ne hyt
              have hyb : (y.toList == t.toList) = false := by rw [beq_eq_false_iff_ne]; exact hyl
              have hqI : (0 : Int) < (q : Int) := by omega
              have hqJ : ¬ (q : Int) = 0 := by omega
              go_wp2_with fail
              refine (o_at hQ4 _ s y true hat (by omega)).mono ?_
              rintro e v5 ⟨rfl, hd5⟩
              have hQ5 := hQ4.below hd5
              clear hQ4 hd5 hat
              go_upto_region 24 with fail
              have hd6 : Below v5.heap.size v5 (v5.alloc (.cells #[.string s, .string y] 30)) := (Below.refl _ _).alloc (Nat.le_refl _) _
              have hy6 := heap_alloc_new v5 (.cells #[.string s, .string y] 30)
              have hQ6 := hQ5.below hd6
              clear hQ5 hd6
              generalize v5.alloc (.cells #[.string s, .string y] 30) = v6 at *
              generalize v5.heap.size = B6 at *
              have hc0 : v6.cell? ⟨B6, 0, none⟩ = some (.string s) := cell_of_blk hy6 0 _ rfl
              have hc1 : v6.cell? ⟨B6, 1, none⟩ = some (.string y) := cell_of_blk hy6 1 _ rfl
              have hx2 : v6.cell? ⟨B, 2, none⟩ = some (.string s) := cell_of_blk hQ6.blk 2 _ rfl
              have hx3 : v6.cell? ⟨B, 3, none⟩ = some (.string t) := cell_of_blk hQ6.blk 3 _ rfl
              clear hy6
              go_wp2
              refine ⟨⟨k + 1, m, l', by omega, by go_num, hs', hm, hQ6.forget⟩, ?_⟩
              simp [intOf]
              omega
      · have hm2n : wh.tmod 2 = 1 := (Int.tmod_eq_emod_of_nonneg hw0).trans hm2
        by_cases hbad : n < 0 ∨ 65536 < n
        · go_wp2_with fail
          refine (resize_bad _ b n hbad).mono ?_
          rintro e w3 ⟨rfl, rfl⟩
          have hP3 := hP0
          clear hbad
          clear hb0 hb1 hb2 hb3 HX hP0
          clear hm2 hm2n hw0 hw1 hn0 hn1
          have hl := count_le hs64
          go_upto_region 13 with fail
          clear wz
          go_loopw [9, 10] (fun i9 i10 wr => ∃ j : Nat, j ≤ (l).length ∧ i9 = .int .i64 (Tk.sum ((l).take j) : Nat) ∧ i10 = .int .i64 (j : Int) ∧ TO w b m l B (.cells #[.int .u8 wh, .int .i64 n, .string s, .string t] 52) wr) (fun _ i10 _ => (l).length - (intOf i10).toNat)
          case atStart => exact ⟨0, Nat.zero_le _, rfl, rfl, hP3⟩
          case round =>
            clear hP3
            obtain ⟨j, hj, rfl, rfl, hQ⟩ := hrel
            go_wp2_with fail
            refine (o_len hQ).mono ?_
            rintro e wq ⟨rfl, rfl⟩
            by_cases hjl : j < (l).length
            · have hat := at_dyn l j hjl
              have hsum := sum_take_succ l j hjl
              have hle := take_sum_le l (j + 1)
              have hft : Fits ((l).getD j Tk.nil) := fits_of_sum hs hm (by rw [List.getD_eq_getElem?_getD, List.getElem?_eq_getElem hjl]; exact List.getElem_mem hjl)
              have hjI : (j : Int) < ((l).length : Int) := by omega
              generalize (l).getD j Tk.nil = f at *
              obtain ⟨y, z⟩ := f
              have hw62 : IntKind.i64.wrap (62 + (j : Int)) = ((62 + j : Nat) : Int) := by rw [IntWalk.i64_in _ (by omega)]; omega
              go_wp2_with fail
              clear hw62
              refine (o_at hQ _ y z true hat (by omega)).mono ?_
              rintro e v2 ⟨rfl, hd2⟩
              have hQ2 := hQ.below hd2
              clear hQ hd2 hat
              go_upto_region 16 with fail
              have hd3 : Below v2.heap.size v2 (v2.alloc (.cells #[.string y, .string z] 30)) := (Below.refl _ _).alloc (Nat.le_refl _) _
              have hy3 := heap_alloc_new v2 (.cells #[.string y, .string z] 30)
              have hQ3 := hQ2.below hd3
              clear hQ2 hd3
              generalize v2.alloc (.cells #[.string y, .string z] 30) = v3 at *
              generalize v2.heap.size = B3 at *
              have hc0 : v3.cell? ⟨B3, 0, none⟩ = some (.string y) := cell_of_blk hy3 0 _ rfl
              have hc1 : v3.cell? ⟨B3, 1, none⟩ = some (.string z) := cell_of_blk hy3 1 _ rfl
              clear hy3
              go_wp2_with fail
              refine (weight_any _ y z hft).mono ?_
              rintro e v4 ⟨rfl, hd4⟩
              have hQ4 := hQ3.below hd4
              clear hQ3 hd4 hc0 hc1 hft
              have hadd : IntKind.i64.wrap (((Tk.sum ((l).take j) : Nat) : Int) + ((Tk.wt (y, z) : Nat) : Int)) = ((Tk.sum ((l).take (j + 1)) : Nat) : Int) := by rw [hsum, IntWalk.i64_in _ (by omega)]; omega
              clear hsum hle
              go_wp2
              refine ⟨⟨j + 1, by omega, ?_, by go_num, hQ4⟩, ?_⟩
              · first | rfl | (rw [hadd])
              · simp [intOf]
                omega
            · have hje : j = (l).length := by omega
              subst hje
              clear hjl hj
              rw [List.take_length]
              have hw62 : IntKind.i64.wrap (62 + (((l).length : Nat) : Int)) = ((62 + (l).length : Nat) : Int) := by rw [IntWalk.i64_in _ (by omega)]; omega
              go_wp2_with fail
              refine (o_len hQ).mono ?_
              rintro e wq ⟨rfl, rfl⟩
              go_wp2_with fail
              clear hw62
              refine (o_at hQ _ ⟨#[]⟩ ⟨#[]⟩ false (at_past l) (by omega)).mono ?_
              rintro e v2 ⟨rfl, hd2⟩
              have hQ2 := hQ.below hd2
              clear hQ hd2
              go_upto_region 20 with fail
              have hQ3 := hQ2.below (w' := v2.alloc (.cells #[.string ⟨#[]⟩, .string ⟨#[]⟩] 30)) ((Below.refl _ _).alloc (Nat.le_refl _) _)
              clear hQ2
              generalize v2.alloc (.cells #[.string ⟨#[]⟩, .string ⟨#[]⟩] 30) = v3 at *
              generalize v2.heap.size = B3 at *
              go_wp2_with fail
              refine (o_size hQ3).mono ?_
              rintro e wq ⟨rfl, rfl⟩
              have hsI : ¬ ((m : Nat) : Int) < ((Tk.sum l : Nat) : Int) := by omega
              go_wp2_with fail
              refine (o_most hQ3).mono ?_
              rintro e wq ⟨rfl, rfl⟩
              have hmI : ¬ (65536 : Int) < ((m : Nat) : Int) := by omega
              go_wp2_with fail
              refine (o_most hQ3).mono ?_
              rintro e wq ⟨rfl, rfl⟩
              have hx2 : v3.cell? ⟨B, 2, none⟩ = some (.string s) := cell_of_blk hQ3.blk 2 _ rfl
              have hx3 : v3.cell? ⟨B, 3, none⟩ = some (.string t) := cell_of_blk hQ3.blk 3 _ rfl
              obtain ⟨q, is, hq⟩ : ∃ q is, Tk.find (s, t) (Tk.all l) 0 0 = (q, is) := ⟨_, _, rfl⟩
              have hq9 : (q : Int) ≤ 9223372036854775807 := by
                have := found_le s t _ q is hq
                rw [Tk.all_length] at this
                omega
              go_wp2_with fail
              refine (o_find hQ3 hs64 s t q is hq).mono ?_
              rintro e v4 ⟨rfl, hd4⟩
              have hQ4 := hQ3.below hd4
              clear hQ3 hd4 hx2 hx3 hsI hmI
              rcases found s t _ q is hq with ⟨rfl, hq1, hat⟩ | ⟨rfl, rfl, hat⟩ | ⟨rfl, hq1, y, hyt, hat⟩
              · clear hq
                have hqI : (0 : Int) < (q : Int) := by omega
                have hqJ : ¬ (q : Int) = 0 := by omega
                go_wp2_with fail
                refine (o_at hQ4 _ s t true hat (by omega)).mono ?_
                rintro e v5 ⟨rfl, hd5⟩
                have hQ5 := hQ4.below hd5
                clear hQ4 hd5 hat
                go_upto_region 24 with fail
                have hd6 : Below v5.heap.size v5 (v5.alloc (.cells #[.string s, .string t] 30)) := (Below.refl _ _).alloc (Nat.le_refl _) _
                have hy6 := heap_alloc_new v5 (.cells #[.string s, .string t] 30)
                have hQ6 := hQ5.below hd6
                clear hQ5 hd6
                generalize v5.alloc (.cells #[.string s, .string t] 30) = v6 at *
                generalize v5.heap.size = B6 at *
                have hc0 : v6.cell? ⟨B6, 0, none⟩ = some (.string s) := cell_of_blk hy6 0 _ rfl
                have hc1 : v6.cell? ⟨B6, 1, none⟩ = some (.string t) := cell_of_blk hy6 1 _ rfl
                have hx2 : v6.cell? ⟨B, 2, none⟩ = some (.string s) := cell_of_blk hQ6.blk 2 _ rfl
                have hx3 : v6.cell? ⟨B, 3, none⟩ = some (.string t) := cell_of_blk hQ6.blk 3 _ rfl
                clear hy6
                go_wp2
                refine ⟨⟨k + 1, m, l, by omega, by go_num, hs, hm, hQ6.forget⟩, ?_⟩
                simp [intOf]
                omega
              · clear hq
                go_wp2_with fail
                refine (o_at hQ4 _ ⟨#[]⟩ ⟨#[]⟩ false hat (by omega)).mono ?_
                rintro e v5 ⟨rfl, hd5⟩
                have hQ5 := hQ4.below hd5
                clear hQ4 hd5 hat
                go_upto_region 24 with fail
                have hd6 : Below v5.heap.size v5 (v5.alloc (.cells #[.string ⟨#[]⟩, .string ⟨#[]⟩] 30)) := (Below.refl _ _).alloc (Nat.le_refl _) _
                have hy6 := heap_alloc_new v5 (.cells #[.string ⟨#[]⟩, .string ⟨#[]⟩] 30)
                have hQ6 := hQ5.below hd6
                clear hQ5 hd6
                generalize v5.alloc (.cells #[.string ⟨#[]⟩, .string ⟨#[]⟩] 30) = v6 at *
                generalize v5.heap.size = B6 at *
                have hc0 : v6.cell? ⟨B6, 0, none⟩ = some (.string ⟨#[]⟩) := cell_of_blk hy6 0 _ rfl
                have hc1 : v6.cell? ⟨B6, 1, none⟩ = some (.string ⟨#[]⟩) := cell_of_blk hy6 1 _ rfl
                have hx2 : v6.cell? ⟨B, 2, none⟩ = some (.string s) := cell_of_blk hQ6.blk 2 _ rfl
                have hx3 : v6.cell? ⟨B, 3, none⟩ = some (.string t) := cell_of_blk hQ6.blk 3 _ rfl
                clear hy6
                go_wp2
                refine ⟨⟨k + 1, m, l, by omega, by go_num, hs, hm, hQ6.forget⟩, ?_⟩
                simp [intOf]
                omega
              · clear hq
                have hyl := toList_ne hyt
                have hyb : (y.toList == t.toList) = false := by rw [beq_eq_false_iff_ne]; exact hyl
                have hqI : (0 : Int) < (q : Int) := by omega
                have hqJ : ¬ (q : Int) = 0 := by omega
                go_wp2_with fail
                refine (o_at hQ4 _ s y true hat (by omega)).mono ?_
                rintro e v5 ⟨rfl, hd5⟩
                have hQ5 := hQ4.below hd5
                clear hQ4 hd5 hat
                go_upto_region 24 with fail
                have hd6 : Below v5.heap.size v5 (v5.alloc (.cells #[.string s, .string y] 30)) := (Below.refl _ _).alloc (Nat.le_refl _) _
                have hy6 := heap_alloc_new v5 (.cells #[.string s, .string y] 30)
                have hQ6 := hQ5.below hd6
                clear hQ5 hd6
                generalize v5.alloc (.cells #[.string s, .string y] 30) = v6 at *
                generalize v5.heap.size = B6 at *
                have hc0 : v6.cell? ⟨B6, 0, none⟩ = some (.string s) := cell_of_blk hy6 0 _ rfl
                have hc1 : v6.cell? ⟨B6, 1, none⟩ = some (.string y) := cell_of_blk hy6 1 _ rfl
                have hx2 : v6.cell? ⟨B, 2, none⟩ = some (.string s) := cell_of_blk hQ6.blk 2 _ rfl
                have hx3 : v6.cell? ⟨B, 3, none⟩ = some (.string t) := cell_of_blk hQ6.blk 3 _ rfl
                clear hy6
                go_wp2
                refine ⟨⟨k + 1, m, l, by omega, by go_num, hs, hm, hQ6.forget⟩, ?_⟩
                simp [intOf]
                omega
        · obtain ⟨n', rfl⟩ : ∃ n' : Nat, n = (n' : Int) := ⟨n.toNat, by omega⟩
          have hn' : n' ≤ 65536 := by omega
          clear hbad
          go_wp2_with fail
          refine (o_resize hP0 hs64 n' hn').mono ?_
          rintro e w3 ⟨rfl, hP3⟩
          have hs' := Tk.shr_sum n' l
          generalize Tk.shr n' l = l' at *
          have hs64' : Tk.sum l' ≤ 65536 := by omega
          clear hb0 hb1 hb2 hb3 HX hP0
          clear hm2 hm2n hw0 hw1 hn0 hn1
          have hl := count_le hs64'
          go_upto_region 13 with fail
          clear wz
          go_loopw [9, 10] (fun i9 i10 wr => ∃ j : Nat, j ≤ (l').length ∧ i9 = .int .i64 (Tk.sum ((l').take j) : Nat) ∧ i10 = .int .i64 (j : Int) ∧ TO w b n' l' B (.cells #[.int .u8 wh, .int .i64 (n' : Int), .string s, .string t] 52) wr) (fun _ i10 _ => (l').length - (intOf i10).toNat)
          case atStart => exact ⟨0, Nat.zero_le _, rfl, rfl, hP3⟩
          case round =>
            clear hP3
            obtain ⟨j, hj, rfl, rfl, hQ⟩ := hrel
            go_wp2_with fail
            refine (o_len hQ).mono ?_
            rintro e wq ⟨rfl, rfl⟩
            by_cases hjl : j < (l').length
            · have hat := at_dyn l' j hjl
              have hsum := sum_take_succ l' j hjl
              have hle := take_sum_le l' (j + 1)
              have hft : Fits ((l').getD j Tk.nil) := fits_of_sum hs' hn' (by rw [List.getD_eq_getElem?_getD, List.getElem?_eq_getElem hjl]; exact List.getElem_mem hjl)
              have hjI : (j : Int) < ((l').length : Int) := by omega
              generalize (l').getD j Tk.nil = f at *
              obtain ⟨y, z⟩ := f
              have hw62 : IntKind.i64.wrap (62 + (j : Int)) = ((62 + j : Nat) : Int) := by rw [IntWalk.i64_in _ (by omega)]; omega
              go_wp2_with fail
              clear hw62
              refine (o_at hQ _ y z true hat (by omega)).mono ?_
              rintro e v2 ⟨rfl, hd2⟩
              have hQ2 := hQ.below hd2
              clear hQ hd2 hat
              go_upto_region 16 with fail
              have hd3 : Below v2.heap.size v2 (v2.alloc (.cells #[.string y, .string z] 30)) := (Below.refl _ _).alloc (Nat.le_refl _) _
              have hy3 := heap_alloc_new v2 (.cells #[.string y, .string z] 30)
              have hQ3 := hQ2.below hd3
              clear hQ2 hd3
              generalize v2.alloc (.cells #[.string y, .string z] 30) = v3 at *
              generalize v2.heap.size = B3 at *
              have hc0 : v3.cell? ⟨B3, 0, none⟩ = some (.string y) := cell_of_blk hy3 0 _ rfl
              have hc1 : v3.cell? ⟨B3, 1, none⟩ = some (.string z) := cell_of_blk hy3 1 _ rfl
              clear hy3
              go_wp2_with fail
              refine (weight_any _ y z hft).mono ?_
              rintro e v4 ⟨rfl, hd4⟩
              have hQ4 := hQ3.below hd4
              clear hQ3 hd4 hc0 hc1 hft
              have hadd : IntKind.i64.wrap (((Tk.sum ((l').take j) : Nat) : Int) + ((Tk.wt (y, z) : Nat) : Int)) = ((Tk.sum ((l').take (j + 1)) : Nat) : Int) := by rw [hsum, IntWalk.i64_in _ (by omega)]; omega
              clear hsum hle
              go_wp2
              refine ⟨⟨j + 1, by omega, ?_, by go_num, hQ4⟩, ?_⟩
              · first | rfl | (rw [hadd])
              · simp [intOf]
                omega
            · have hje : j = (l').length := by omega
              subst hje
              clear hjl hj
              rw [List.take_length]
              have hw62 : IntKind.i64.wrap (62 + (((l').length : Nat) : Int)) = ((62 + (l').length : Nat) : Int) := by rw [IntWalk.i64_in _ (by omega)]; omega
              go_wp2_with fail
              refine (o_len hQ).mono ?_
              rintro e wq ⟨rfl, rfl⟩
              go_wp2_with fail
              clear hw62
              refine (o_at hQ _ ⟨#[]⟩ ⟨#[]⟩ false (at_past l') (by omega)).mono ?_
              rintro e v2 ⟨rfl, hd2⟩
              have hQ2 := hQ.below hd2
              clear hQ hd2
              go_upto_region 20 with fail
              have hQ3 := hQ2.below (w' := v2.alloc (.cells #[.string ⟨#[]⟩, .string ⟨#[]⟩] 30)) ((Below.refl _ _).alloc (Nat.le_refl _) _)
              clear hQ2
              generalize v2.alloc (.cells #[.string ⟨#[]⟩, .string ⟨#[]⟩] 30) = v3 at *
              generalize v2.heap.size = B3 at *
              go_wp2_with fail
              refine (o_size hQ3).mono ?_
              rintro e wq ⟨rfl, rfl⟩
              have hsI : ¬ ((n' : Nat) : Int) < ((Tk.sum l' : Nat) : Int) := by omega
              go_wp2_with fail
              refine (o_most hQ3).mono ?_
              rintro e wq ⟨rfl, rfl⟩
              have hmI : ¬ (65536 : Int) < ((n' : Nat) : Int) := by omega
              go_wp2_with fail
              refine (o_most hQ3).mono ?_
              rintro e wq ⟨rfl, rfl⟩
              have hx2 : v3.cell? ⟨B, 2, none⟩ = some (.string s) := cell_of_blk hQ3.blk 2 _ rfl
              have hx3 : v3.cell? ⟨B, 3, none⟩ = some (.string t) := cell_of_blk hQ3.blk 3 _ rfl
              obtain ⟨q, is, hq⟩ : ∃ q is, Tk.find (s, t) (Tk.all l') 0 0 = (q, is) := ⟨_, _, rfl⟩
              have hq9 : (q : Int) ≤ 9223372036854775807 := by
                have := found_le s t _ q is hq
                rw [Tk.all_length] at this
                omega
              go_wp2_with fail
              refine (o_find hQ3 hs64' s t q is hq).mono ?_
              rintro e v4 ⟨rfl, hd4⟩
              have hQ4 := hQ3.below hd4
              clear hQ3 hd4 hx2 hx3 hsI hmI
              rcases found s t _ q is hq with ⟨rfl, hq1, hat⟩ | ⟨rfl, rfl, hat⟩ | ⟨rfl, hq1, y, hyt, hat⟩
              · clear hq
                have hqI : (0 : Int) < (q : Int) := by omega
                have hqJ : ¬ (q : Int) = 0 := by omega
                go_wp2_with fail
                refine (o_at hQ4 _ s t true hat (by omega)).mono ?_
                rintro e v5 ⟨rfl, hd5⟩
                have hQ5 := hQ4.below hd5
                clear hQ4 hd5 hat
                go_upto_region 24 with fail
                have hd6 : Below v5.heap.size v5 (v5.alloc (.cells #[.string s, .string t] 30)) := (Below.refl _ _).alloc (Nat.le_refl _) _
                have hy6 := heap_alloc_new v5 (.cells #[.string s, .string t] 30)
                have hQ6 := hQ5.below hd6
                clear hQ5 hd6
                generalize v5.alloc (.cells #[.string s, .string t] 30) = v6 at *
                generalize v5.heap.size = B6 at *
                have hc0 : v6.cell? ⟨B6, 0, none⟩ = some (.string s) := cell_of_blk hy6 0 _ rfl
                have hc1 : v6.cell? ⟨B6, 1, none⟩ = some (.string t) := cell_of_blk hy6 1 _ rfl
                have hx2 : v6.cell? ⟨B, 2, none⟩ = some (.string s) := cell_of_blk hQ6.blk 2 _ rfl
                have hx3 : v6.cell? ⟨B, 3, none⟩ = some (.string t) := cell_of_blk hQ6.blk 3 _ rfl
                clear hy6
                go_wp2
                refine ⟨⟨k + 1, n', l', by omega, by go_num, hs', hn', hQ6.forget⟩, ?_⟩
                simp [intOf]
                omega
              · clear hq
                go_wp2_with fail
                refine (o_at hQ4 _ ⟨#[]⟩ ⟨#[]⟩ false hat (by omega)).mono ?_
                rintro e v5 ⟨rfl, hd5⟩
                have hQ5 := hQ4.below hd5
                clear hQ4 hd5 hat
                go_upto_region 24 with fail
                have hd6 : Below v5.heap.size v5 (v5.alloc (.cells #[.string ⟨#[]⟩, .string ⟨#[]⟩] 30)) := (Below.refl _ _).alloc (Nat.le_refl _) _
                have hy6 := heap_alloc_new v5 (.cells #[.string ⟨#[]⟩, .string ⟨#[]⟩] 30)
                have hQ6 := hQ5.below hd6
                clear hQ5 hd6
                generalize v5.alloc (.cells #[.string ⟨#[]⟩, .string ⟨#[]⟩] 30) = v6 at *
                generalize v5.heap.size = B6 at *
                have hc0 : v6.cell? ⟨B6, 0, none⟩ = some (.string ⟨#[]⟩) := cell_of_blk hy6 0 _ rfl
                have hc1 : v6.cell? ⟨B6, 1, none⟩ = some (.string ⟨#[]⟩) := cell_of_blk hy6 1 _ rfl
                have hx2 : v6.cell? ⟨B, 2, none⟩ = some (.string s) := cell_of_blk hQ6.blk 2 _ rfl
                have hx3 : v6.cell? ⟨B, 3, none⟩ = some (.string t) := cell_of_blk hQ6.blk 3 _ rfl
                clear hy6
                go_wp2
                refine ⟨⟨k + 1, n', l', by omega, by go_num, hs', hn', hQ6.forget⟩, ?_⟩
                simp [intOf]
                omega
              · clear hq
                have hyl := toList_ne hyt
                have hyb : (y.toList == t.toList) = false := by rw [beq_eq_false_iff_ne]; exact hyl
                have hqI : (0 : Int) < (q : Int) := by omega
                have hqJ : ¬ (q : Int) = 0 := by omega
                go_wp2_with fail
                refine (o_at hQ4 _ s y true hat (by omega)).mono ?_
                rintro e v5 ⟨rfl, hd5⟩
                have hQ5 := hQ4.below hd5
                clear hQ4 hd5 hat
                go_upto_region 24 with fail
                have hd6 : Below v5.heap.size v5 (v5.alloc (.cells #[.string s, .string y] 30)) := (Below.refl _ _).alloc (Nat.le_refl _) _
                have hy6 := heap_alloc_new v5 (.cells #[.string s, .string y] 30)
                have hQ6 := hQ5.below hd6
                clear hQ5 hd6
                generalize v5.alloc (.cells #[.string s, .string y] 30) = v6 at *
                generalize v5.heap.size = B6 at *
                have hc0 : v6.cell? ⟨B6, 0, none⟩ = some (.string s) := cell_of_blk hy6 0 _ rfl
                have hc1 : v6.cell? ⟨B6, 1, none⟩ = some (.string y) := cell_of_blk hy6 1 _ rfl
                have hx2 : v6.cell? ⟨B, 2, none⟩ = some (.string s) := cell_of_blk hQ6.blk 2 _ rfl
                have hx3 : v6.cell? ⟨B, 3, none⟩ = some (.string t) := cell_of_blk hQ6.blk 3 _ rfl
                clear hy6
                go_wp2
                refine ⟨⟨k + 1, n', l', by omega, by go_num, hs', hn', hQ6.forget⟩, ?_⟩
                simp [intOf]
                omega
    · obtain rfl : k = len := by omega
      clear hc
      have hB : Below b w wz := by obtain ⟨_, _, _, h⟩ := hP; exact h
      have hbs : b ≤ wz.heap.size := by obtain ⟨_, h, _⟩ := hP; exact Nat.le_of_lt h.lt.1
      clear hP
      go_wp2_with fail
      refine (awake_true _).mono ?_
      rintro e w5 ⟨rfl, hb5⟩
      go_wp2
      go_ret
      exact ⟨rfl, by rw [HBB.out]; exact belB hB hbs hb5⟩
end Go.Proofs.Ytjdobemljghkbaa
