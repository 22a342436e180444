/- The reference's encoder: one field, walked (printed by gen_wa.py). -/
import Derived.Test.YtmjibpjnhehnnaaKl
import Derived.Test.YtmjibpjnhehnnaaRz
namespace Go.Proofs.Ytmjibpjnhehnnaa
open Go.RowKit
attribute [local go_sem ↓] Go.wp_at_zero Go.wp_at_succ

set_option maxRecDepth 100000 in
theorem refnum_any (h bs m n : Nat) (hb1 : 1 ≤ bs) (hb8 : bs ≤ 8) (hh : h < 256) (hn : n ≤ 2147483647) (hm : m = 2 ^ bs) (h0 : h % m = 0) (w : World) :
    Calls Try.prog 38 #[.int .u8 (h : Int), .int .i64 (bs : Int), .int .i64 (n : Int)] w fun e w' => e = .returned (.string (strN (Pr.int h m n))) ∧ Below w.heap.size w w' := by
  have hI := refInt_good h bs n m w hb1 hb8 hh hn hm
  rw [show Pr.wInt h m n = (Pr.int h m n, 0) from if_pos h0] at hI
  have HI := Lib.hid hI
  clear hI h0 hm hn hh hb1 hb8
  go_enter Try.func38, Try.ntmps38
  go_wp2_with fail
  refine HI.out.mono ?_
  rintro e w2 ⟨rfl, hb⟩
  go_wp2
  go_ret
  exact ⟨rfl, hb⟩

theorem eq_lit {x : ByteArray} {L : Array UInt8} (h : x = ⟨L⟩) : (x.toList == L.toList) = true := by rw [h, ByteArray.toList_eq]; simp
theorem ne_lit {x : ByteArray} {L : Array UInt8} (h : ¬ x = ⟨L⟩) : (x.toList == L.toList) = false := by
  rw [beq_eq_false_iff_ne]
  have := toList_ne h
  rwa [ByteArray.toList_eq ⟨L⟩] at this

/-- Within the reference's coding of a field: its table, its encoder, the field's box. -/
structure Gk (w0 : World) (b r : Nat) (g : Option Nat) (was least m : Nat) (l : List Tk.Fd) (B : Nat) (x y : ByteArray) (w : World) : Prop where
  tab : RTab w b g m l
  enc : w.heap[r]? = some (.cells (EB b was least) 81 (0, 0))
  box : w.heap[B]? = some (.cells #[.string x, .string y] 57 (0, 0))
  bel : Below B w0 w
  size : w0.heap.size = B
/-- What adding leaves. -/
def RGot (w : World) (b : Nat) (g : Option Nat) (l : List Tk.Fd) (m : Nat) (w' : World) : Prop := ∃ g', RTab w' b g' m l ∧ Only (· = b) w w' ∧ ∀ k, g' = some k → g = some k ∨ w.heap.size ≤ k
section
variable {w0 w w' : World} {b r was least m B : Nat} {g : Option Nat} {l : List Tk.Fd} {x y : ByteArray}
theorem Gk.below (h : Gk w0 b r g was least m l B x y w) (hb : Below w.heap.size w w') : Gk w0 b r g was least m l B x y w' :=
  ⟨h.tab.below hb, (hb.block r (heap_lt h.enc)).trans h.enc, (hb.block B (heap_lt h.box)).trans h.box, h.bel.trans (hb.mono (Nat.le_of_lt (heap_lt h.box))), h.size⟩
theorem Gk.drew (h : Gk w0 b r g was least m l B x y w) : Gk w0 b r g was least m l B x y w.drew := h.below ⟨rfl, rfl, rfl, Nat.le_refl _, fun _ _ => rfl⟩
theorem RTab.most (h : RTab w b g m l) : w.cell? ⟨b, 0, none⟩ = some (.int .i64 (m : Int)) := by
  obtain ⟨v, _, hb, _⟩ := h
  exact cell_of_blk hb 0 _ rfl
theorem Gk.cells (h : Gk w0 b r g was least m l B x y w) : w.cell? ⟨r, 0, none⟩ = some (.pointer (some ⟨b, 0, none⟩)) ∧ w.cell? ⟨B, 0, none⟩ = some (.string x) ∧ w.cell? ⟨B, 1, none⟩ = some (.string y) ∧ w.cell? ⟨b, 0, none⟩ = some (.int .i64 (m : Int)) := ⟨bcell_of h.enc 0 _ rfl, bcell_of h.box 0 _ rfl, bcell_of h.box 1 _ rfl, h.tab.most⟩
theorem Gk.find (h : Gk w0 b r g was least m l B x y w) (hs : Tk.sum l ≤ m) (hm : m ≤ 65536) (i : Nat) (wh : Bool) (hf : Tk.find (x, y) (Tk.all l) 0 0 = (i, wh)) : Calls Try.prog 58 #[.pointer (some ⟨b, 0, none⟩), .agg #[.string x, .string y]] w fun en w' => en = .returned (.tuple #[.int .i64 (i : Int), .bool wh]) ∧ Gk w0 b r g was least m l B x y w' := by
  refine (rfind_any w b m g l x y (i, wh) h.tab hf (by have := count_le hs; omega)).mono ?_
  rintro en w' ⟨rfl, hb⟩
  exact ⟨rfl, h.below hb⟩
theorem Gk.str (h : Gk w0 b r g was least m l B x y w) (z : ByteArray) (hz : z.size < 268435456) : Calls Try.prog 59 #[.string z] w fun en w' => en = .returned (.string (strN (Pr.str (nats z)))) ∧ Gk w0 b r g was least m l B x y w' := by
  refine (refStr_any z w (by omega)).mono ?_
  rintro en w' ⟨rfl, hb⟩
  exact ⟨rfl, h.below hb⟩
theorem Gk.num (h : Gk w0 b r g was least m l B x y w) (hi bs mm n : Nat) (hb1 : 1 ≤ bs) (hb8 : bs ≤ 8) (hh : hi < 256) (hn : n ≤ 2147483647) (hm : mm = 2 ^ bs) (h0 : hi % mm = 0) : Calls Try.prog 38 #[.int .u8 (hi : Int), .int .i64 (bs : Int), .int .i64 (n : Int)] w fun en w' => en = .returned (.string (strN (Pr.int hi mm n))) ∧ Gk w0 b r g was least m l B x y w' := by
  refine (refnum_any hi bs mm n hb1 hb8 hh hn hm h0 w).mono ?_
  rintro en w' ⟨rfl, hb⟩
  exact ⟨rfl, h.below hb⟩
theorem Gk.only (h : Gk w0 b r g was least m l B x y w) : RGot w0 b g l m w := ⟨g, h.tab, Only.of_below _ (by rw [h.size]; exact h.bel), fun k hk => .inl hk⟩
end
theorem RGot.below {w w9 w10 : World} {b m : Nat} {g : Option Nat} {l : List Tk.Fd} (h1 : RGot w b g l m w9) (h2 : Below w9.heap.size w9 w10) : RGot w b g l m w10 := by
  obtain ⟨g', hT, hO, hg⟩ := h1
  exact ⟨g', hT.below h2, hO.trans (Only.of_below _ h2), hg⟩
theorem RGot.of {w w9 w10 : World} {b m : Nat} {g : Option Nat} {l : List Tk.Fd} (h1 : Only (· = b) w w9) (h2 : RAdded w9 b m l w10) : RGot w b g l m w10 := by
  obtain ⟨g', hT, hO, hg⟩ := h2
  exact ⟨g', hT, h1.trans hO, fun k hk => .inr (Nat.le_trans h1.size (hg k hk))⟩

set_option maxRecDepth 100000 in
set_option maxHeartbeats 8000000 in
theorem rone_any (w : World) (b r : Nat) (g : Option Nat) (was least m : Nat) (l : List Tk.Fd) (x y : ByteArray) (hT : RTab w b g m l) (he : w.heap[r]? = some (.cells (EB b was least) 81 (0, 0)))
    (hs : Tk.sum l ≤ m) (hm : m ≤ 65536) (hsh : Hk.Short (x, y)) :
    Calls Try.prog 39 #[.pointer (some ⟨r, 0, none⟩), .agg #[.string x, .string y]] w fun en w' => en = .returned (.string (strN (Hk.one m l (x, y)).1)) ∧ RGot w b g (Hk.one m l (x, y)).2 m w' := by
  obtain ⟨i, wh, hf⟩ : ∃ i wh, Tk.find (x, y) (Tk.all l) 0 0 = (i, wh) := ⟨_, _, rfl⟩
  have hi := Hk.find_small (x, y) hs hm
  have hone : Hk.one m l (x, y) = if Lib.containsS Hk.secrets x = true then (Pr.int 16 16 i ++ Hk.texts i (x, y), l) else if wh = true then (Pr.int 128 128 i, l)
      else if Lib.containsS Hk.rares x = true ∨ m < Tk.wt (x, y) then (Pr.int 0 16 i ++ Hk.texts i (x, y), l) else (Pr.int 64 64 i ++ Hk.texts i (x, y), Tk.add m (x, y) l) := by
    unfold Hk.one
    simp only [hf]
  have htl := texts_len i x y hsh
  have hil := fun (h mm : Nat) => Pr.int_len h mm i (by rw [hf] at hi; simp only at hi; omega)
  rw [hf] at hi
  simp only at hi
  have HONE := Lib.hid hone
  have hfit : Fits (x, y) := ⟨by have := hsh.1; simp only at *; omega, by have := hsh.2; simp only at *; omega⟩
  have HX := Lib.hid hsh.1
  have HY := Lib.hid hsh.2
  have HF := Lib.hid hf
  have hc30 : (x ∈ Hk.secrets → Lib.containsS Hk.secrets x = true) ∧ (¬ x ∈ Hk.secrets → Lib.containsS Hk.secrets x = false) := ⟨(Lib.containsS_iff _ _).2, fun h => by cases hc : Lib.containsS Hk.secrets x; rfl; exact absurd ((Lib.containsS_iff _ _).1 hc) h⟩
  have hc44 : (x ∈ Hk.rares → Lib.containsS Hk.rares x = true) ∧ (¬ x ∈ Hk.rares → Lib.containsS Hk.rares x = false) := ⟨(Lib.containsS_iff _ _).2, fun h => by cases hc : Lib.containsS Hk.rares x; rfl; exact absurd ((Lib.containsS_iff _ _).1 hc) h⟩
  generalize Lib.containsS Hk.secrets x = csec at *
  generalize Lib.containsS Hk.rares x = crar at *
  have HC30 := Lib.hid hc30
  have HC44 := Lib.hid hc44
  clear hone hf hsh hc30 hc44
  go_enter Try.func39, Try.ntmps39
  go_upto_region 1 with fail
  have hF : Gk w b r g was least m l w.heap.size x y (w.alloc (.cells #[.string x, .string y] 57)) := by
    have hb : Below w.heap.size w (w.alloc (.cells #[.string x, .string y] 57)) := (Below.refl _ _).alloc (Nat.le_refl _) _
    exact ⟨hT.below hb, (hb.block r (heap_lt he)).trans he, heap_alloc_new w _, hb, rfl⟩
  generalize w.alloc (.cells #[.string x, .string y] 57) = w3 at *
  generalize w.heap.size = B at *
  clear hT he
  obtain ⟨hc0, hc1, hc2, hc3⟩ := hF.cells
  have hF4 := hF.drew
  clear hF
  go_region_held3 (fun w' => w'.cell? ⟨r, 0, none⟩ = some (.pointer (some ⟨b, 0, none⟩)) ∧ w'.cell? ⟨B, 0, none⟩ = some (.string x) ∧ w'.cell? ⟨B, 1, none⟩ = some (.string y) ∧ w'.cell? ⟨b, 0, none⟩ = some (.int .i64 (m : Int))) (first | exact ⟨hc0, hc1, hc2, hc3⟩ | exact hF5.cells) (first | (go_at_call 58; refine (hF4.find hs hm i wh HF.out).mono ?_; rintro en w5 ⟨rfl, hF5⟩))
  clear hc0 hc1 hc2 hc3
  clear hF4
  obtain ⟨H, hH⟩ : ∃ H, H = if i = 0 then Pr.str (nats x) else [] := ⟨_, rfl⟩
  have HH := Lib.hid hH
  clear hH
  go_upto_if 19 with fail
  go_cut [7] (fun s7 wx => s7 = .string (strN H) ∧ Gk w b r g was least m l B x y wx)
  case first =>
    by_cases hi0 : i = 0
    · have hh : H = Pr.str (nats x) := by rw [HH.out, if_pos hi0]
      have HH2 := Lib.hid hh
      subst hi0
      clear hh
      obtain ⟨hc0, hc1, hc2, hc3⟩ := hF5.cells
      go_wp2_with fail
      refine (hF5.str x HX.out).mono ?_
      rintro en w7 ⟨rfl, hF7⟩
      go_wp2
      go_meet
      rw [HH2.out]
      exact ⟨rfl, hF7⟩
    · have hh : H = [] := by rw [HH.out, if_neg hi0]
      have HH2 := Lib.hid hh
      have hiI : ((i : Int) == 0) = false := by rw [beq_eq_false_iff_ne]; omega
      have hiI2 : ¬ (i : Int) = 0 := by omega
      clear hh hi0
      go_wp2
      go_meet
      rw [HH2.out]
      exact ⟨rfl, hF5⟩
  case rest =>
  obtain ⟨rfl, hF6⟩ := hcut
  clear hF5
  have htx : Hk.texts i (x, y) = H ++ Pr.str (nats y) := by rw [HH.out]; rfl
  rw [htx] at htl
  have HTX := Lib.hid htx
  rw [List.length_append] at htl
  have hcat := run_cat H (Pr.str (nats y)) (by omega)
  clear htx HH
  obtain ⟨hc0, hc1, hc2, hc3⟩ := hF6.cells
  go_wp2_with fail
  refine (hF6.str y HY.out).mono ?_
  rintro en w7 ⟨rfl, hF7⟩
  clear hc0 hc1 hc2 hc3 hF6
  obtain ⟨hc0, hc1, hc2, hc3⟩ := hF7.cells
  rw [← List.length_append] at htl
  go_upto_if 30 with fail
  clear hcat
  rw [← HTX.out] at htl ⊢
  generalize Hk.texts i (x, y) = T at *
  go_cut [30] (fun s30 wx => s30 = .bool csec ∧ w7 = wx)
  case first =>
    by_cases h0 : x = ⟨#[97, 117, 116, 104, 111, 114, 105, 122, 97, 116, 105, 111, 110]⟩
    · have b0 : (x.toList == [97, 117, 116, 104, 111, 114, 105, 122, 97, 116, 105, 111, 110]) = true := eq_lit h0
      have HH0 := Lib.hid h0
      clear h0
      rw [b0]
      go_wp2
      go_meet
      exact ⟨by rw [HC30.out.1 (by rw [HH0.out]; exact List.mem_of_getElem? (i := 0) rfl)], rfl⟩
    · have b0 : (x.toList == [97, 117, 116, 104, 111, 114, 105, 122, 97, 116, 105, 111, 110]) = false := ne_lit h0
      have HH0 := Lib.hid h0
      clear h0
      by_cases h1 : x = ⟨#[99, 111, 111, 107, 105, 101]⟩
      · have b1 : (x.toList == [99, 111, 111, 107, 105, 101]) = true := eq_lit h1
        have HH1 := Lib.hid h1
        clear h1
        rw [b0]
        go_wp2
        go_meet
        exact ⟨by rw [HC30.out.1 (by rw [HH1.out]; exact List.mem_of_getElem? (i := 1) rfl)], rfl⟩
      · have b1 : (x.toList == [99, 111, 111, 107, 105, 101]) = false := ne_lit h1
        have HH1 := Lib.hid h1
        clear h1
        by_cases h2 : x = ⟨#[112, 114, 111, 120, 121, 45, 97, 117, 116, 104, 111, 114, 105, 122, 97, 116, 105, 111, 110]⟩
        · have b2 : (x.toList == [112, 114, 111, 120, 121, 45, 97, 117, 116, 104, 111, 114, 105, 122, 97, 116, 105, 111, 110]) = true := eq_lit h2
          have HH2 := Lib.hid h2
          clear h2
          rw [b0]
          go_wp2
          go_meet
          exact ⟨by rw [HC30.out.1 (by rw [HH2.out]; exact List.mem_of_getElem? (i := 2) rfl)], rfl⟩
        · have b2 : (x.toList == [112, 114, 111, 120, 121, 45, 97, 117, 116, 104, 111, 114, 105, 122, 97, 116, 105, 111, 110]) = false := ne_lit h2
          have HH2 := Lib.hid h2
          clear h2
          by_cases h3 : x = ⟨#[115, 101, 116, 45, 99, 111, 111, 107, 105, 101]⟩
          · have b3 : (x.toList == [115, 101, 116, 45, 99, 111, 111, 107, 105, 101]) = true := eq_lit h3
            have HH3 := Lib.hid h3
            clear h3
            rw [b0]
            go_wp2
            go_meet
            exact ⟨by rw [HC30.out.1 (by rw [HH3.out]; exact List.mem_of_getElem? (i := 3) rfl)], rfl⟩
          · have b3 : (x.toList == [115, 101, 116, 45, 99, 111, 111, 107, 105, 101]) = false := ne_lit h3
            have HH3 := Lib.hid h3
            clear h3
            rw [b0]
            go_wp2
            go_meet
            exact ⟨by rw [HC30.out.2 (by simp [Hk.secrets, HH0.out, HH1.out, HH2.out, HH3.out])], rfl⟩
  case rest =>
  obtain ⟨rfl, rfl⟩ := hcut
  have hcat := fun h mm => run_cat (Pr.int h mm i) T (by have := hil h mm; omega)
  have HCAT := Lib.hid hcat
  clear hcat hil
  have hin : i ≤ 2147483647 := by omega
  cases csec
  · have HONE2 : Hid (Hk.one m l (x, y) = if wh = true then (Pr.int 128 128 i, l) else if crar = true ∨ m < Tk.wt (x, y) then (Pr.int 0 16 i ++ T, l) else (Pr.int 64 64 i ++ T, Tk.add m (x, y) l)) := Lib.hid (by rw [HONE.out, if_neg (by simp)])
    clear HONE
    cases wh
    · have HONE3 : Hid (Hk.one m l (x, y) = if crar = true ∨ m < Tk.wt (x, y) then (Pr.int 0 16 i ++ T, l) else (Pr.int 64 64 i ++ T, Tk.add m (x, y) l)) := Lib.hid (by rw [HONE2.out, if_neg (by simp)])
      clear HONE2
      go_upto_if 44 with fail
      go_cut [44] (fun s44 wx => s44 = .bool crar ∧ w7 = wx)
      case first =>
        by_cases h0 : x = ⟨#[58, 112, 97, 116, 104]⟩
        · have b0 : (x.toList == [58, 112, 97, 116, 104]) = true := eq_lit h0
          have HH0 := Lib.hid h0
          clear h0
          rw [b0]
          go_wp2
          go_meet
          exact ⟨by rw [HC44.out.1 (by rw [HH0.out]; exact List.mem_of_getElem? (i := 0) rfl)], rfl⟩
        · have b0 : (x.toList == [58, 112, 97, 116, 104]) = false := ne_lit h0
          have HH0 := Lib.hid h0
          clear h0
          by_cases h1 : x = ⟨#[99, 111, 110, 116, 101, 110, 116, 45, 108, 101, 110, 103, 116, 104]⟩
          · have b1 : (x.toList == [99, 111, 110, 116, 101, 110, 116, 45, 108, 101, 110, 103, 116, 104]) = true := eq_lit h1
            have HH1 := Lib.hid h1
            clear h1
            rw [b0]
            go_wp2
            go_meet
            exact ⟨by rw [HC44.out.1 (by rw [HH1.out]; exact List.mem_of_getElem? (i := 1) rfl)], rfl⟩
          · have b1 : (x.toList == [99, 111, 110, 116, 101, 110, 116, 45, 108, 101, 110, 103, 116, 104]) = false := ne_lit h1
            have HH1 := Lib.hid h1
            clear h1
            by_cases h2 : x = ⟨#[99, 111, 110, 116, 101, 110, 116, 45, 114, 97, 110, 103, 101]⟩
            · have b2 : (x.toList == [99, 111, 110, 116, 101, 110, 116, 45, 114, 97, 110, 103, 101]) = true := eq_lit h2
              have HH2 := Lib.hid h2
              clear h2
              rw [b0]
              go_wp2
              go_meet
              exact ⟨by rw [HC44.out.1 (by rw [HH2.out]; exact List.mem_of_getElem? (i := 2) rfl)], rfl⟩
            · have b2 : (x.toList == [99, 111, 110, 116, 101, 110, 116, 45, 114, 97, 110, 103, 101]) = false := ne_lit h2
              have HH2 := Lib.hid h2
              clear h2
              by_cases h3 : x = ⟨#[100, 97, 116, 101]⟩
              · have b3 : (x.toList == [100, 97, 116, 101]) = true := eq_lit h3
                have HH3 := Lib.hid h3
                clear h3
                rw [b0]
                go_wp2
                go_meet
                exact ⟨by rw [HC44.out.1 (by rw [HH3.out]; exact List.mem_of_getElem? (i := 3) rfl)], rfl⟩
              · have b3 : (x.toList == [100, 97, 116, 101]) = false := ne_lit h3
                have HH3 := Lib.hid h3
                clear h3
                by_cases h4 : x = ⟨#[101, 116, 97, 103]⟩
                · have b4 : (x.toList == [101, 116, 97, 103]) = true := eq_lit h4
                  have HH4 := Lib.hid h4
                  clear h4
                  rw [b0]
                  go_wp2
                  go_meet
                  exact ⟨by rw [HC44.out.1 (by rw [HH4.out]; exact List.mem_of_getElem? (i := 4) rfl)], rfl⟩
                · have b4 : (x.toList == [101, 116, 97, 103]) = false := ne_lit h4
                  have HH4 := Lib.hid h4
                  clear h4
                  by_cases h5 : x = ⟨#[108, 97, 115, 116, 45, 109, 111, 100, 105, 102, 105, 101, 100]⟩
                  · have b5 : (x.toList == [108, 97, 115, 116, 45, 109, 111, 100, 105, 102, 105, 101, 100]) = true := eq_lit h5
                    have HH5 := Lib.hid h5
                    clear h5
                    rw [b0]
                    go_wp2
                    go_meet
                    exact ⟨by rw [HC44.out.1 (by rw [HH5.out]; exact List.mem_of_getElem? (i := 5) rfl)], rfl⟩
                  · have b5 : (x.toList == [108, 97, 115, 116, 45, 109, 111, 100, 105, 102, 105, 101, 100]) = false := ne_lit h5
                    have HH5 := Lib.hid h5
                    clear h5
                    by_cases h6 : x = ⟨#[108, 111, 99, 97, 116, 105, 111, 110]⟩
                    · have b6 : (x.toList == [108, 111, 99, 97, 116, 105, 111, 110]) = true := eq_lit h6
                      have HH6 := Lib.hid h6
                      clear h6
                      rw [b0]
                      go_wp2
                      go_meet
                      exact ⟨by rw [HC44.out.1 (by rw [HH6.out]; exact List.mem_of_getElem? (i := 6) rfl)], rfl⟩
                    · have b6 : (x.toList == [108, 111, 99, 97, 116, 105, 111, 110]) = false := ne_lit h6
                      have HH6 := Lib.hid h6
                      clear h6
                      rw [b0]
                      go_wp2
                      go_meet
                      exact ⟨by rw [HC44.out.2 (by simp [Hk.rares, HH0.out, HH1.out, HH2.out, HH3.out, HH4.out, HH5.out, HH6.out])], rfl⟩
      case rest =>
      obtain ⟨rfl, rfl⟩ := hcut
      cases crar
      · have HONE4 : Hid (Hk.one m l (x, y) = if m < Tk.wt (x, y) then (Pr.int 0 16 i ++ T, l) else (Pr.int 64 64 i ++ T, Tk.add m (x, y) l)) := Lib.hid (by rw [HONE3.out]; simp only [Bool.false_eq_true, false_or])
        clear HONE3
        have HWT := Lib.hid (fun w => rweight_any w x y hfit)
        have hF8 := hF7.drew
        go_upto_region 23 with fail
        go_region_held3 (fun w' => w'.cell? ⟨r, 0, none⟩ = some (.pointer (some ⟨b, 0, none⟩)) ∧ w'.cell? ⟨B, 0, none⟩ = some (.string x) ∧ w'.cell? ⟨B, 1, none⟩ = some (.string y) ∧ w'.cell? ⟨b, 0, none⟩ = some (.int .i64 (m : Int))) (first | exact ⟨hc0, hc1, hc2, hc3⟩ | exact hF9.cells) (first | (go_at_call 29; refine (HWT.out _).mono ?_; rintro en w9 ⟨rfl, hb9⟩; have hF9 := hF8.below hb9))
        all_goals
          clear hF7 hF8 hc0 hc1 hc2 hc3 hb9 HWT
          by_cases hlw : m < Tk.wt (x, y)
          · have hdl : decide (m < Tk.wt (x, y)) = true := decide_eq_true hlw
            have hdI : (m : Int) < (Tk.wt (x, y) : Int) := by omega
            have HLW := Lib.hid hlw
            have hcat := HCAT.out 0 16
            clear hlw
            go_wp2_with fail
            refine (hF9.num 0 4 16 i (by omega) (by omega) (by omega) hin rfl rfl).mono ?_
            rintro en w10 ⟨rfl, hF10⟩
            go_wp2
            go_ret
            rw [HONE4.out, if_pos HLW.out]
            exact ⟨rfl, hF10.only⟩
          · have hdl : decide (m < Tk.wt (x, y)) = false := decide_eq_false hlw
            have hdI : ¬ (m : Int) < (Tk.wt (x, y) : Int) := by omega
            have HLW := Lib.hid hlw
            clear hlw
            have hcat2 := HCAT.out 64 64
            obtain ⟨hc0, hc1, hc2, hc3⟩ := hF9.cells
            have hF9d := hF9.drew
            go_upto_region 25 with fail
            go_region_law (first | (go_simp; go_at_call 60; refine (radd_any _ b m g l x y hF9d.tab (by omega) hm hfit).mono ?_; rintro en w11 ⟨rfl, hA⟩))
            all_goals
              have hA2 := RGot.of (g := g) (Only.of_below (· = b) (by rw [hF9d.size]; exact hF9d.bel)) hA
              clear hc0 hc1 hc2 hc3 hF9 hF9d hA
              go_wp2_with fail
              refine (refnum_any 64 6 64 i (by omega) (by omega) (by omega) hin rfl rfl w11).mono ?_
              rintro en w12 ⟨rfl, hb12⟩
              go_wp2
              go_ret
              rw [HONE4.out, if_neg HLW.out]
              exact ⟨rfl, hA2.below hb12⟩
      · have hcat := HCAT.out 0 16
        go_wp2_with fail
        refine (hF7.num 0 4 16 i (by omega) (by omega) (by omega) hin rfl rfl).mono ?_
        rintro en w8 ⟨rfl, hF8⟩
        clear hc0 hc1 hc2 hc3
        go_wp2
        go_ret
        rw [HONE3.out, if_pos (Or.inl (by trivial))]
        exact ⟨rfl, hF8.only⟩
    · go_wp2_with fail
      refine (hF7.num 128 7 128 i (by omega) (by omega) (by omega) hin rfl rfl).mono ?_
      rintro en w8 ⟨rfl, hF8⟩
      clear hc0 hc1 hc2 hc3
      go_wp2
      go_ret
      rw [HONE2.out, if_pos (by trivial)]
      exact ⟨rfl, hF8.only⟩
  · have hcat := HCAT.out 16 16
    go_wp2_with fail
    refine (hF7.num 16 4 16 i (by omega) (by omega) (by omega) hin rfl rfl).mono ?_
    rintro en w8 ⟨rfl, hF8⟩
    clear hc0 hc1 hc2 hc3
    go_wp2
    go_ret
    rw [HONE.out, if_pos (by trivial)]
    exact ⟨rfl, hF8.only⟩
end Go.Proofs.Ytmjibpjnhehnnaa
