/- The reference's encoder: made, limited, weighed: walked; the row of bytes that it writes into. The reference's encoder: a block, walked. The encoder and the reference's in one world. -/
import Derived.Test.YtmjibpjnhehnnaaWa
import Derived.Test.YtmjibpjnhehnnaaKn
import Derived.Test.YtmjibpjnhehnnaaKq
import Derived.Lib.AppendStr
import Derived.Test.YtmjibpjnhehnnaaKo
import Derived.Deep.LoopGhost
import Derived.Test.YtmjibpjnhehnnaaKs
/-! The reference's encoder: made, limited, weighed: walked; the row of bytes that it writes into. -/
namespace Go.Proofs.Ytmjibpjnhehnnaa
open Go.RowKit
attribute [local go_sem ↓] Go.wp_at_zero Go.wp_at_succ

/-- What the reference's encoder writes. -/
def RS2 (b r : Nat) (k : Nat) : Prop := k = b ∨ k = r
/-- What the reference's encoder leaves. -/
def ROut (w : World) (b r : Nat) (g : Option Nat) (was least m : Nat) (l : List Tk.Fd) (w' : World) : Prop :=
  ∃ g', RTab w' b g' m l ∧ w'.heap[r]? = some (.cells (EB b was least) 81 (0, 0)) ∧ Only (RS2 b r) w w' ∧ ∀ k, g' = some k → g = some k ∨ w.heap.size ≤ k
theorem RTab.blkR {w : World} {b m : Nat} {g : Option Nat} {l : List Tk.Fd} (h : RTab w b g m l) : ∃ cs, w.heap[b]? = some (.cells cs 83 (0, 0)) := by
  obtain ⟨v, _, hb, _⟩ := h
  exact ⟨_, hb⟩
theorem RTab.rowR {w : World} {b m : Nat} {g : Option Nat} {l : List Tk.Fd} (h : RTab w b g m l) : ∀ k, g = some k → ∃ cs, w.heap[k]? = some (.cells cs 57 (0, 0)) := by
  obtain ⟨v, hv, _, hr⟩ := h
  intro k hk
  exact (own_type hr k (by rw [hv]; exact hk)).2
set_option maxRecDepth 100000 in
theorem rnewenc_any (w : World) : Calls Try.prog 16 #[] w fun e w' => ∃ r, e = .returned (.pointer (some ⟨r, 0, none⟩)) ∧ w.heap.size < r ∧ RTab w' w.heap.size none 4096 [] ∧ w'.heap[r]? = some (.cells (EB w.heap.size 4096 4096) 81 (0, 0)) ∧ Below w.heap.size w w' := by
  have HN := Lib.hid (rnew_good w 4096 (by omega))
  go_enter Try.func16, Try.ntmps16
  go_wp2_with fail
  refine HN.out.mono ?_
  rintro e w2 ⟨rfl, hb, hz, hT⟩
  have HZ := Lib.hid hz
  clear hz
  go_wp2
  go_ret
  have hb3 : Below w2.heap.size w2 (w2.alloc (.cells #[.pointer (some ⟨w.heap.size, 0, none⟩), .int .i64 4096, .int .i64 4096] 81)) := (Below.refl _ _).alloc (Nat.le_refl _) _
  have hz := HZ.out
  exact ⟨_, rfl, by omega, hT.below hb3, heap_alloc_new w2 _, hb.trans (hb3.mono (by omega))⟩
set_option maxRecDepth 100000 in
theorem resize6_any (w : World) (b r was least m : Nat) (g : Option Nat) (l : List Tk.Fd) (hT : RTab w b g m l) (he : w.heap[r]? = some (.cells (EB b was least) 81 (0, 0))) (hs : Tk.sum l ≤ 65536) :
    Calls Try.prog 21 #[.pointer (some ⟨r, 0, none⟩)] w fun e w' => e = .returned (.int .i64 (Tk.sum l : Nat)) ∧ Below w.heap.size w w' := by
  have hc : w.cell? ⟨r, 0, none⟩ = some (.pointer (some ⟨b, 0, none⟩)) := bcell_of he 0 _ rfl
  go_enter Try.func21, Try.ntmps21
  go_wp2_with fail
  refine (rsize_any w b m g l hT hs).mono ?_
  rintro e w2 ⟨rfl, hb⟩
  go_wp2
  go_ret
  exact ⟨rfl, hb⟩
set_option maxRecDepth 100000 in
theorem rlimit_bad (w : World) (d : Nat) (n : Int) (h : n < 0 ∨ 4294967295 < n) : Calls Try.prog 18 #[.pointer (some ⟨d, 0, none⟩), .int .i64 n] w fun e w' => e = .returned (.int .i64 5) ∧ w = w' := by
  rcases h with h1 | h1
  · go_enter Try.func18, Try.ntmps18
    go_wp2
    go_ret
    exact ⟨rfl, rfl⟩
  · have h0 : ¬ n < 0 := by omega
    go_enter Try.func18, Try.ntmps18
    go_wp2
    go_ret
    exact ⟨rfl, rfl⟩
set_option maxRecDepth 100000 in
set_option maxHeartbeats 1000000 in
theorem rlimit_good (w : World) (b r : Nat) (g : Option Nat) (was least m n k : Nat) (l : List Tk.Fd) (hT : RTab w b g m l) (he : w.heap[r]? = some (.cells (EB b was least) 81 (0, 0))) (hs : Tk.sum l ≤ 65536) (hn : n ≤ 4294967295) (hk : min n 4096 = k) :
    Calls Try.prog 18 #[.pointer (some ⟨r, 0, none⟩), .int .i64 (n : Int)] w fun en w' => en = .returned (.int .i64 0) ∧ ROut w b r g was (min least k) k (Tk.shr k l) w' := by
  have h0 : ¬ (n : Int) < 0 := by omega
  have h1 : ¬ (4294967295 : Int) < (n : Int) := by omega
  have hmin : ∀ (ts : Array TypeId) (t : TypeId) (w : World), (Builtin.min_ ts t #[.int .i64 (n : Int), .int .i64 4096]).run Try.prog w = .ok (.int .i64 (k : Int)) w := fun ts t w => min_nat n 4096 k hk ts t w
  have hk2 : k ≤ 65536 := by omega
  have he0 : w.cell? ⟨r, 0, none⟩ = some (.pointer (some ⟨b, 0, none⟩)) := bcell_of he 0 _ rfl
  have HRS := Lib.hid (rresize_good w b m k g l hT hs hk2)
  obtain ⟨csb, hb⟩ := hT.blkR
  have heb : r ≠ b := blk_type_ne he hb (by decide)
  have heg : ∀ k, g = some k → r ≠ k := fun k hk => by obtain ⟨cs, hc⟩ := hT.rowR k hk; exact blk_type_ne he hc (by decide)
  have HE := Lib.hid he
  clear hT he hb hk hn
  go_enter Try.func18, Try.ntmps18
  go_wp2_with fail
  refine HRS.out.mono ?_
  rintro en w2 ⟨rfl, hT2, hO2⟩
  have he2 : w2.heap[r]? = _ := hO2.block' HE.out heb
  obtain ⟨q, hq⟩ : ∃ q, min least k = q := ⟨_, rfl⟩
  have hmin2 := min_nat least k q hq
  have hc0 : w2.cell? ⟨r, 0, none⟩ = some (.pointer (some ⟨b, 0, none⟩)) := bcell_of he2 0 _ rfl
  have hc2 : w2.cell? ⟨r, 2, none⟩ = some (.int .i64 (least : Int)) := bcell_of he2 2 _ rfl
  have hf2 : w2.frozen? ⟨r, 2, none⟩ = false := frozen_of_row w2 r 2 _ _ he2
  have hm2 : w2.cell? ⟨b, 0, none⟩ = some (.int .i64 (k : Int)) := hT2.most
  have HQ := Lib.hid hq
  have hw3 : ∀ n, ROut w b r g was q k (Tk.shr k l) ((w2.drewN n).setCell ⟨r, 2, none⟩ (.int .i64 (q : Int))) := by
    intro n
    have hO3 : Only (fun i => i = r) w2 ((w2.drewN n).setCell ⟨r, 2, none⟩ (.int .i64 (q : Int))) := Only.setCell (S := fun i => i = r) (p := ⟨r, 2, none⟩) ((Only.refl _ w2).drewN n) (.inr rfl) _
    refine ⟨g, hT2.only hO3 (fun h => heb h.symm) (fun k hk h => heg k hk h.symm), ?_, hO2.then hO3 (fun i _ h => .inl h) (fun i _ h => .inr h), fun k hk => .inl hk⟩
    exact (heap_setCell_same (w2.drewN n) r 2 _ _ _ he2).trans rfl
  have HW3 := Lib.hid hw3
  clear hq hT2 hO2 he2 hw3
  go_wp2
  go_region_law (fail)
  all_goals
    go_wp2
    go_ret
    rw [HQ.out]
    exact ⟨rfl, HW3.out 1⟩
/-- A text's cells. -/
theorem strCells_strN {l : List Nat} (h : Hf.Byte l) : Lib.strCells (strN l) = u8s l := by
  unfold Lib.strCells strN u8s
  simp only [List.map_map]
  refine List.map_congr_left fun x hx => ?_
  simp [Nat.mod_eq_of_lt (show x < 256 from h x hx)]
/-- append(l, t...): l a row of bytes of the call's own, t a text. -/
theorem wpList_cat {ops : Array Oper} {rest : List Oper} {o : Oper} {a : Act} {Q : Exit → Act → World → Prop} {W : World} (base : Nat) (hgd : o.guard = none) (s x : Operand)
    (ho : o.op = .call { callee := .builtin .append, args := #[s, x], argTypes := #[67, 9] })
    (v : Value) (out t : List Nat) (hs : a.eval s = v) (hx : a.eval x = .string (strN t)) (ht : Hf.Byte t) (HO : W.ownsRow base 5 1 v out.length (u8s out)) (hbase : base ≤ W.heap.size) (hlen : out.length + t.length ≤ 140737488355328)
    (h : ∀ v1 w1, w1.ownsRow base 5 1 v1 (out ++ t).length (u8s (out ++ t)) → W.grownBy w1 v.ownBlock → wpList Try.prog ops Q rest (a.put o.dst v1) w1) :
    wpList Try.prog ops Q (o :: rest) a W := by
  obtain ⟨i, hi, hz0, hz1, hz2⟩ := info_open info_u8
  refine Lib.wpList_append_own_string (P := Try.prog) W hgd s x 67 9 ho base 5 i Try.underlying67 Try.underlying9 hi hz0 hz1 hz2 v out.length (u8s out) hs HO (strN t) hx (by rw [strN_size]; unfold maxLen; omega) (by rw [strN_size]; omega) hbase ?_
  intro v1 w1 h1 h2 _
  rw [strN_size, strCells_strN ht, ← u8s_append] at h1
  exact h v1 w1 (by rw [List.length_append]; exact h1) h2
end Go.Proofs.Ytmjibpjnhehnnaa

/-! The reference's encoder: a block, walked. -/
namespace Go.Proofs.Ytmjibpjnhehnnaa
open Go.RowKit
attribute [local go_sem ↓] Go.wp_at_zero Go.wp_at_succ

theorem FRow.only {S : Nat → Prop} {w w' : World} {a : Option Addr} {n : Nat} {fs : List Tk.Fd} (h : FRow w a n fs) (ho : Only S w w') (hS : ∀ x, a = some x → 0 < n → ¬ S x.block) : FRow w' a n fs := by
  refine ⟨h.1, fun i hi => ?_⟩
  obtain ⟨x, rfl, h1, h2, h3⟩ := h.2 i hi
  have hb := ho.block x.block h1 (hS x rfl (by omega))
  have cell : ∀ j u, w.cell? (x.add j) = some u → w'.cell? (x.add j) = some u := by
    intro j u hu
    rw [← hu]
    unfold World.cell?
    rw [add_block, hb]
  exact ⟨x, rfl, Nat.lt_of_lt_of_le h1 ho.size, cell _ _ h2, cell _ _ h3⟩
/-- Within the writing of a block. -/
def RWr (w0 : World) (b r : Nat) (g0 : Option Nat) (was least m : Nat) (v : Value) (out : List Nat) (l : List Tk.Fd) (w : World) : Prop :=
  ∃ g, RTab w b g m l ∧ w.heap[r]? = some (.cells (EB b was least) 81 (0, 0)) ∧ w.ownsRow w0.heap.size 5 1 v out.length (u8s out) ∧ Only (RS2 b r) w0 w ∧ ∀ k, g = some k → g0 = some k ∨ w0.heap.size ≤ k
section
variable {w0 w w' : World} {b r was least m : Nat} {g0 : Option Nat} {v : Value} {out : List Nat} {l : List Tk.Fd}
theorem RWr.own (h : RWr w0 b r g0 was least m v out l w) : w.ownsRow w0.heap.size 5 1 v out.length (u8s out) := by
  obtain ⟨g, hT, he, ho, hO, hg⟩ := h
  exact ho
theorem RWr.base (h : RWr w0 b r g0 was least m v out l w) : w0.heap.size ≤ w.heap.size := by
  obtain ⟨g, hT, he, ho, hO, hg⟩ := h
  exact hO.size
theorem RWr.cells (h : RWr w0 b r g0 was least m v out l w) : w.heap[r]? = some (.cells (EB b was least) 81 (0, 0)) := by
  obtain ⟨g, hT, he, ho, hO, hg⟩ := h
  exact he
theorem RWr.row {a : Option Addr} {n : Nat} {fs : List Tk.Fd} (h : RWr w0 b r g0 was least m v out l w) (hr : FRow w0 a n fs) (hA : ∀ x, a = some x → 0 < n → ¬ RS2 b r x.block) : FRow w a n fs := by
  obtain ⟨g, hT, he, ho, hO, hg⟩ := h
  exact hr.only hO hA
theorem RWr.below (h : RWr w0 b r g0 was least m v out l w) (hb : Below w.heap.size w w') : RWr w0 b r g0 was least m v out l w' := by
  obtain ⟨g, hT, he, ho, hO, hg⟩ := h
  have hk : Only (fun _ => False) w w' := Only.of_below _ hb
  exact ⟨g, hT.below hb, hk.block' he id, own_only ho hk (fun _ _ h => h), hO.then hk (fun _ _ h => h) (fun _ _ h => h.elim), hg⟩
theorem RWr.one (h : RWr w0 b r g0 was least m v out l w) (x y : ByteArray) (hs : Tk.sum l ≤ m) (hm : m ≤ 65536) (hsh : Hk.Short (x, y)) :
    Calls Try.prog 39 #[.pointer (some ⟨r, 0, none⟩), .agg #[.string x, .string y]] w fun en w' => en = .returned (.string (strN (Hk.one m l (x, y)).1)) ∧ RWr w0 b r g0 was least m v out (Hk.one m l (x, y)).2 w' := by
  obtain ⟨g, hT, he, ho, hO, hg⟩ := h
  obtain ⟨csb, hb⟩ := hT.blkR
  refine (rone_any w b r g was least m l x y hT he hs hm hsh).mono ?_
  rintro en w' ⟨rfl, g', hT', hO', hg'⟩
  refine ⟨rfl, g', hT', hO'.block' he (blk_type_ne he hb (by decide)), own_only ho hO' ?_, hO.then hO' (fun _ _ h => h) (fun _ _ h => .inl h), ?_⟩
  · intro k hk
    obtain ⟨_, cs, hc⟩ := own_type ho k hk
    exact blk_type_ne hc hb (by decide)
  · intro k hk
    rcases hg' k hk with h1 | h1
    · exact hg k h1
    · exact .inr (Nat.le_trans hO.size h1)
theorem RWr.cat {v1 : Value} {t : List Nat} (h : RWr w0 b r g0 was least m v out l w) (h1 : w'.ownsRow w0.heap.size 5 1 v1 (out ++ t).length (u8s (out ++ t))) (hgr : w.grownBy w' v.ownBlock) : RWr w0 b r g0 was least m v1 (out ++ t) l w' := by
  obtain ⟨g, hT, he, ho, hO, hg⟩ := h
  obtain ⟨csb, hb⟩ := hT.blkR
  have hk : Only (fun k => v.ownBlock = some k) w w' := (Only.refl _ w).grown hgr (fun k hk => .inr hk)
  have hsep : ∀ {k cs T}, w.heap[k]? = some (.cells cs T (0, 0)) → T ≠ 5 → ¬ v.ownBlock = some k := by
    intro k cs T hk h2 h
    obtain ⟨_, cs', hc'⟩ := own_type ho k h
    exact blk_type_ne hk hc' h2 rfl
  refine ⟨g, hT.only hk (hsep hb (by decide)) ?_, hk.block' he (hsep he (by decide)), h1, hO.grown hgr (fun k hk => .inl (own_type ho k hk).1), hg⟩
  intro k hgk
  obtain ⟨cs, hc⟩ := hT.rowR k hgk
  exact hsep hc (by decide)
theorem RWr.set {was' least' i : Nat} {u : Value} (h : RWr w0 b r g0 was least m v out l w) (hs : (EB b was least).setIfInBounds i u = EB b was' least') : RWr w0 b r g0 was' least' m v out l (w.setCell ⟨r, i, none⟩ u) := by
  obtain ⟨g, hT, he, ho, hO, hg⟩ := h
  obtain ⟨csb, hb⟩ := hT.blkR
  have hk : Only (fun k => k = r) w (w.setCell ⟨r, i, none⟩ u) := Only.setCell (S := fun k => k = r) (p := ⟨r, i, none⟩) (Only.refl _ w) (.inr rfl) u
  refine ⟨g, hT.only hk (blk_type_ne hb he (by decide)) ?_, (heap_setCell_same w r i _ _ u he).trans (by rw [hs]), own_only ho hk ?_, hO.setCell (.inr (.inr rfl)) u, hg⟩
  · intro k hgk h
    obtain ⟨cs, hc⟩ := hT.rowR k hgk
    exact blk_type_ne hc he (by decide) h
  · intro k hvk h
    obtain ⟨_, cs, hc⟩ := own_type ho k hvk
    exact blk_type_ne hc he (by decide) h
end
set_option maxRecDepth 100000 in
set_option maxHeartbeats 8000000 in
theorem rwrite_any (w : World) (b r : Nat) (g : Option Nat) (was least m : Nat) (l : List Tk.Fd) (A : Option Addr) (c : Nat) (fs : List Tk.Fd) (hT : RTab w b g m l) (he : w.heap[r]? = some (.cells (EB b was least) 81 (0, 0)))
    (hr : FRow w A fs.length fs) (hA : ∀ x, A = some x → 0 < fs.length → ¬ RS2 b r x.block) (hs : Tk.sum l ≤ m) (hm : m ≤ 65536) (hle : least ≤ 65536) (hsh : ∀ f ∈ fs, Hk.Short f) (hn : fs.length ≤ 1099511627776) (hlen : Hk.size fs + 12 ≤ 140737488355328) :
    Calls Try.prog 19 #[.pointer (some ⟨r, 0, none⟩), .slice A fs.length c] w fun en w' => en = .returned (.string (strN (Hk.write m was least fs l).1)) ∧ ROut w b r g m m m (Hk.write m was least fs l).2 w' := by
  have hol := Hk.ones_len m fs l hs hm hsh
  have hhl := Hk.head_len m was least hm hle
  have hhb := Hk.head_byte m was least
  have hW1 : RWr w b r g was least m (.slice none 0 0) [] l w := ⟨g, hT, he, World.ownsRow_nil _ _ _ _, Only.refl _ w, fun k hk => .inl hk⟩
  have hc0 : w.cell? ⟨r, 0, none⟩ = some (.pointer (some ⟨b, 0, none⟩)) := bcell_of he 0 _ rfl
  have hc1 : w.cell? ⟨r, 1, none⟩ = some (.int .i64 (was : Int)) := bcell_of he 1 _ rfl
  have hc2 : w.cell? ⟨r, 2, none⟩ = some (.int .i64 (least : Int)) := bcell_of he 2 _ rfl
  have hm0 : w.cell? ⟨b, 0, none⟩ = some (.int .i64 (m : Int)) := hT.most
  have HR := Lib.hid hr
  have HA := Lib.hid hA
  have HSH := Lib.hid hsh
  clear hT he hr hA hsh
  go_enter Try.func19, Try.ntmps19
  go_upto_if 20 with fail
  go_cut [5] (fun s5 wx => RWr w b r g was least m s5 (Hk.head m was least) l wx)
  case first =>
    by_cases hlm : least < m
    · have hI : (least : Int) < (m : Int) := by omega
      have hil := Pr.int_len 32 32 least (by omega)
      have hil2 := Pr.int_len 32 32 m (by omega)
      have hhd : Hk.head m was least = [] ++ Pr.int 32 32 least ++ Pr.int 32 32 m := by
        unfold Hk.head
        rw [if_pos hlm, if_pos (.inl hlm), List.nil_append]
      have HHD := Lib.hid hhd
      clear hhd hlm
      go_wp2_with fail
      refine (refnum_any 32 5 32 least (by omega) (by omega) (by omega) (by omega) rfl rfl w).mono ?_
      rintro en w3 ⟨rfl, hb3⟩
      have hW3 := hW1.below hb3
      clear hW1 hb3 hc0 hc1 hc2 hm0
      go_wp2_with (at_builtin; go_must (refine wpList_cat w.heap.size rfl _ _ (by rfl) (.slice none 0 0) [] (Pr.int 32 32 least) (by rfl) (by rfl) (Hk.head1_byte least) (by exact hW3.own) (by exact hW3.base) (by simp only [List.length_nil]; omega) ?_; intro v4 w4 hown4 hg4; have hW4 := hW3.cat hown4 hg4; clear hW3 hg4; obtain ⟨A4, c4, rfl⟩ := own_slice hown4; clear hown4))
      refine (refnum_any 32 5 32 m (by omega) (by omega) (by omega) (by omega) rfl rfl w4).mono ?_
      rintro en w5 ⟨rfl, hb5⟩
      have hW5 := hW4.below hb5
      clear hW4 hb5
      go_wp2_with (at_builtin; go_must (refine wpList_cat w.heap.size rfl _ _ (by rfl) _ ([] ++ Pr.int 32 32 least) (Pr.int 32 32 m) (by rfl) (by rfl) (Hk.head1_byte m) (by exact hW5.own) (by exact hW5.base) (by rw [List.nil_append]; omega) ?_; intro v6 w6 hown6 hg6; have hW6 := hW5.cat hown6 hg6; clear hW5 hg6; obtain ⟨A6, c6, rfl⟩ := own_slice hown6; clear hown6))
      go_meet
      rw [HHD.out]
      simp only [List.nil_append, List.length_append] at hW6 ⊢
      exact hW6
    · have hI : ¬ (least : Int) < (m : Int) := by omega
      by_cases hmw : m = was
      · have hI3 : ((m : Int) == (was : Int)) = true := by rw [beq_iff_eq]; omega
        have hI2 : ((m : Int) != (was : Int)) = false := by rw [bne, hI3]; rfl
        have hhd : Hk.head m was least = [] := by
          unfold Hk.head
          rw [if_neg hlm, if_neg (fun h => h.elim hlm (fun h => h hmw))]
          rfl
        have HHD := Lib.hid hhd
        clear hhd hlm hmw
        go_wp2
        go_meet
        rw [HHD.out]
        exact hW1
      · have hI2 : ((m : Int) != (was : Int)) = true := by rw [bne_iff_ne]; omega
        have hI3 : ((m : Int) == (was : Int)) = false := by rw [beq_eq_false_iff_ne]; omega
        have hil2 := Pr.int_len 32 32 m (by omega)
        have hhd : Hk.head m was least = [] ++ Pr.int 32 32 m := by
          unfold Hk.head
          rw [if_neg hlm, if_pos (.inr hmw)]
        have HHD := Lib.hid hhd
        clear hhd hlm hmw
        go_wp2_with fail
        refine (refnum_any 32 5 32 m (by omega) (by omega) (by omega) (by omega) rfl rfl w).mono ?_
        rintro en w3 ⟨rfl, hb3⟩
        have hW3 := hW1.below hb3
        clear hW1 hb3 hc0 hc1 hc2 hm0
        go_wp2_with (at_builtin; go_must (refine wpList_cat w.heap.size rfl _ _ (by rfl) (.slice none 0 0) [] (Pr.int 32 32 m) (by rfl) (by rfl) (Hk.head1_byte m) (by exact hW3.own) (by exact hW3.base) (by simp only [List.length_nil]; omega) ?_; intro v4 w4 hown4 hg4; have hW4 := hW3.cat hown4 hg4; clear hW3 hg4; obtain ⟨A4, c4, rfl⟩ := own_slice hown4; clear hown4))
        go_meet
        rw [HHD.out]
        exact hW4
  case rest =>
  have hW2 := hcut
  clear hW1 hc0 hc1 hc2 hm0 hcut
  generalize hHH : Hk.head m was least = H at *
  have HHH := Lib.hid hHH
  clear hHH
  have hown := hW2.own
  obtain ⟨A5, c5, rfl⟩ := own_slice hown
  clear hown
  have hc1 : wc.cell? ⟨r, 1, none⟩ = some (.int .i64 (was : Int)) := bcell_of hW2.cells 1 _ rfl
  have hc2 : wc.cell? ⟨r, 2, none⟩ = some (.int .i64 (least : Int)) := bcell_of hW2.cells 2 _ rfl
  have hf1 : wc.frozen? ⟨r, 1, none⟩ = false := frozen_of_row wc r 1 _ _ hW2.cells
  have hf2 : wc.frozen? ⟨r, 2, none⟩ = false := frozen_of_row wc r 2 _ _ hW2.cells
  have hW4 := hW2.set (was' := m) (least' := least) (i := 1) (u := .int .i64 (m : Int)) rfl
  have hW5 := hW4.set (was' := m) (least' := m) (i := 2) (u := .int .i64 (m : Int)) rfl
  clear hW2 hW4
  go_upto_region 10 with fail
  clear hc1 hc2 hf1 hf2
  generalize (wc.setCell ⟨r, 1, none⟩ (.int .i64 (m : Int))).setCell ⟨r, 2, none⟩ (.int .i64 (m : Int)) = w5 at *
  have hnI : (fs.length : Int) ≤ 1099511627776 := by omega
  go_wp2
  go_loopw [5, 7] (fun s5 i7 wr => ∃ k : Nat, k ≤ fs.length ∧ i7 = .int .i64 (k : Int) ∧ RWr w b r g m m m s5 (H ++ (Hk.ones m (fs.take k) l).1) (Hk.ones m (fs.take k) l).2 wr) (fun _ i7 _ => fs.length - (intOf i7).toNat)
  case atStart => exact ⟨0, Nat.zero_le _, rfl, by rw [List.take_zero]; simpa [Hk.ones] using hW5⟩
  case round =>
    clear hW5
    obtain ⟨k, hk, rfl, hW⟩ := hrel
    have hown := hW.own
    obtain ⟨A6, c6, rfl⟩ := own_slice hown
    by_cases hlt : k < fs.length
    · have hstep := Hk.ones_take_succ m k fs l hlt
      have hstl := Hk.ones_take_len m (k + 1) fs l
      have hsum := Hk.ones_sum (fs.take k) hs
      have hby := Hk.one_byte m (Hk.ones m (fs.take k) l).2 (fs.getD k Tk.nil)
      have hshk : Hk.Short (fs.getD k Tk.nil) := by
        refine HSH.out _ ?_
        rw [List.getD_eq_getElem?_getD, List.getElem?_eq_getElem hlt]
        exact List.getElem_mem hlt
      rw [hstep, List.length_append] at hstl
      have HST := Lib.hid hstep
      obtain ⟨x0, hAx, hxb, hx0, hx1⟩ := (hW.row HR.out HA.out).2 k hlt
      have HAX := Lib.hid hAx
      clear hstep hxb hown
      generalize (Hk.ones m (fs.take k) l).2 = l1 at *
      generalize (Hk.ones m (fs.take k) l).1 = o1 at *
      generalize fs.getD k Tk.nil = f at *
      obtain ⟨x, y⟩ := f
      simp only at hx0 hx1
      have hl2 : (H ++ o1).length ≤ 12 + o1.length := by rw [List.length_append]; omega
      generalize hO2 : H ++ o1 = o2 at *
      have HO2 := Lib.hid hO2
      clear hO2
      rw [← Go.Deep.add_add x0 (k * 2) 1, add_litk _ 1 (by decide)] at hx1
      have hkI : (k : Int) < (fs.length : Int) := by omega
      have hk0 : (0 : Int) ≤ (k : Int) := by omega
      subst hAx
      have HONE := Lib.hid (hW.one x y hsum hm hshk)
      clear hW
      go_wp2_with fail
      refine HONE.out.mono ?_
      rintro en w6 ⟨rfl, hW6⟩
      clear hx0 hx1 HONE
      have hsucc : IntKind.i64.wrap ((k : Int) + 1) = ((k + 1 : Nat) : Int) := by rw [IntWalk.i64_in _ (by omega)]; omega
      go_wp2_with (at_builtin; go_must (refine wpList_cat w.heap.size rfl _ _ (by rfl) (.slice A6 o2.length c6) o2 (Hk.one m l1 (x, y)).1 (by rfl) (by rfl) hby (by exact hW6.own) (by exact hW6.base) (by omega) ?_; intro v7 w7 hown7 hg7; have hW7 := hW6.cat hown7 hg7; clear hW6 hg7; obtain ⟨A7, c7, rfl⟩ := own_slice hown7; clear hown7))
      go_roundw
      case rel => exact ⟨k + 1, by omega, by go_num, by rw [HST.out, ← List.append_assoc, HO2.out]; simp only [List.length_append] at hW7; exact hW7⟩
      case measure => simp [intOf] <;> omega
    · obtain rfl : k = fs.length := by omega
      have htl : fs.take fs.length = fs := List.take_length
      rw [htl] at hW hown
      try rw [htl]
      clear htl
      have hby2 := Hk.byte_append hhb (Hk.ones_byte m fs l)
      generalize hO2 : H ++ (Hk.ones m fs l).1 = o2 at *
      have HO2 := Lib.hid hO2
      obtain ⟨g1, hT, he, ho, hO, hg⟩ := hW
      have htext := run_text hown hby2
      clear hown ho hO2
      go_wp2
      go_ret
      have hwr : Hk.write m was least fs l = (o2, (Hk.ones m fs l).2) := by unfold Hk.write; rw [HHH.out, HO2.out]
      rw [hwr]
      exact ⟨rfl, g1, hT, he, hO, hg⟩
end Go.Proofs.Ytmjibpjnhehnnaa

/-! The encoder and the reference's in one world. -/
namespace Go.Proofs.Ytmjibpjnhehnnaa
open Go.RowKit
attribute [local go_sem ↓] Go.wp_at_zero Go.wp_at_succ

/-- The cells of a deed, in a later world. -/
def DCells (wx : World) (x : Addr) (i : Nat) (s : Bool) (n : Int) (v : Value) : Prop := wx.cell? (x.add (i * 4)) = some (.bool s) ∧ wx.cell? { x.add (i * 4) with off := (x.add (i * 4)).off + 1, spot := none } = some (.int .i64 n) ∧ wx.cell? { x.add (i * 4) with off := (x.add (i * 4)).off + 3, spot := none } = some v
theorem deed_cells {w : World} {x : Addr} {i : Nat} {s : Bool} {n : Int} {v : Value} (hx : x.block < w.heap.size) (h0 : w.cell? (x.add (i * 4)) = some (.bool s)) (h1 : w.cell? (x.add (i * 4 + 1)) = some (.int .i64 n)) (h3 : w.cell? (x.add (i * 4 + 3)) = some v) (wx : World) (hB : Below w.heap.size w wx) : DCells wx x i s n v := by
  have r0 := (hB.cell (p := x.add (i * 4)) (by rw [add_block]; exact hx)).trans h0
  have r1 := (hB.cell (p := x.add (i * 4 + 1)) (by rw [add_block]; exact hx)).trans h1
  have r3 := (hB.cell (p := x.add (i * 4 + 3)) (by rw [add_block]; exact hx)).trans h3
  rw [← Go.Deep.add_add x (i * 4) 1, add_litk _ 1 (by decide)] at r1
  rw [← Go.Deep.add_add x (i * 4) 3, add_litk _ 3 (by decide)] at r3
  exact ⟨r0, r1, r3⟩
section
variable {w : World}
theorem own_zero {B n cells : Nat} {t : TypeId} {v : Value} {cs : List Value} (h : w.ownsRow B t cells v n cs) : w.ownsRow 0 t cells v n cs := by
  refine ⟨h.1, ?_⟩
  rcases h.2 with h2 | ⟨g, cap, cur, hv, _, r⟩
  · exact .inl h2
  · exact .inr ⟨g, cap, cur, hv, Nat.zero_le _, r⟩
end
/-- An encoder with its table, the reference's with its own, and what stands apart. -/
def EX (w0 : World) (be e bb r was least m : Nat) (l : List Tk.Fd) (was2 least2 m2 : Nat) (l2 : List Tk.Fd) (bx : List (Nat × Obj)) (w : World) : Prop :=
  ∃ ge gr, Tab w be ge l (Tk.sum l) m ∧ w.heap[e]? = some (.cells (EB be was least) 65 (0, 0)) ∧ RTab w bb gr m2 l2 ∧ w.heap[r]? = some (.cells (EB bb was2 least2) 81 (0, 0)) ∧ (∀ k, ge = some k → gr ≠ some k) ∧
    (w0.heap.size ≤ be ∧ w0.heap.size ≤ e ∧ w0.heap.size ≤ bb ∧ w0.heap.size ≤ r) ∧ (∀ k, ge = some k → w0.heap.size ≤ k) ∧ Below w0.heap.size w0 w ∧ ∀ p ∈ bx, w.heap[p.1]? = some p.2 ∧ p.1 ≠ be ∧ p.1 ≠ e ∧ p.1 ≠ bb ∧ p.1 ≠ r ∧ ge ≠ some p.1
section
variable {w0 w w' : World} {be e bb r was least m was2 least2 m2 : Nat} {l l2 : List Tk.Fd} {bx : List (Nat × Obj)}
theorem EX.below (h : EX w0 be e bb r was least m l was2 least2 m2 l2 bx w) (hb : Below w.heap.size w w') : EX w0 be e bb r was least m l was2 least2 m2 l2 bx w' := by
  obtain ⟨ge, gr, hT, he, hU, hr, hgg, hz, hge, hB, hx⟩ := h
  exact ⟨ge, gr, hT.below hb, (hb.block e (heap_lt he)).trans he, hU.below hb, (hb.block r (heap_lt hr)).trans hr, hgg, hz, hge, hB.trans (hb.mono hB.size), fun p hp => ⟨(hb.block _ (heap_lt (hx p hp).1)).trans (hx p hp).1, (hx p hp).2⟩⟩
theorem EX.drew (h : EX w0 be e bb r was least m l was2 least2 m2 l2 bx w) : EX w0 be e bb r was least m l was2 least2 m2 l2 bx w.drew := h.below ⟨rfl, rfl, rfl, Nat.le_refl _, fun _ _ => rfl⟩
theorem EX.old (h : EX w0 be e bb r was least m l was2 least2 m2 l2 bx w) : Below w0.heap.size w0 w := by
  obtain ⟨ge, gr, hT, he, hU, hr, hgg, hz, hge, hB, hx⟩ := h
  exact hB
theorem EX.drop {p : Nat × Obj} (h : EX w0 be e bb r was least m l was2 least2 m2 l2 (p :: bx) w) : EX w0 be e bb r was least m l was2 least2 m2 l2 bx w := by
  obtain ⟨ge, gr, hT, he, hU, hr, hgg, hz, hge, hB, hx⟩ := h
  exact ⟨ge, gr, hT, he, hU, hr, hgg, hz, hge, hB, fun q hq => hx q (List.mem_cons_of_mem _ hq)⟩
theorem EX.get {p : Nat × Obj} (h : EX w0 be e bb r was least m l was2 least2 m2 l2 (p :: bx) w) : w.heap[p.1]? = some p.2 := by
  obtain ⟨ge, gr, hT, he, hU, hr, hgg, hz, hge, hB, hx⟩ := h
  exact (hx p (List.mem_cons_self ..)).1
theorem EX.lent {g cap : Nat} {fs : List Tk.Fd} (h : EX w0 be e bb r was least m l was2 least2 m2 l2 bx w) (hL : Lent w' w.heap.size g cap fs) (hb : Below w.heap.size w w') :
    ∃ ob, EX w0 be e bb r was least m l was2 least2 m2 l2 ((g, ob) :: bx) w' := by
  obtain ⟨_, cs, hcs⟩ := own_type hL g rfl
  have hgl := hL.cap.1
  obtain ⟨ge, gr, hT, he, hU, hr, hgg, hz, hge, hB, hx⟩ := h
  have l1 := hT.lt
  have l2 := hU.lt
  have l3 := heap_lt he
  have l4 := heap_lt hr
  refine ⟨.cells cs 57 (0, 0), ge, gr, hT.below hb, (hb.block e l3).trans he, hU.below hb, (hb.block r l4).trans hr, hgg, hz, hge, hB.trans (hb.mono hB.size), ?_⟩
  intro p hp
  rcases List.mem_cons.1 hp with rfl | hp
  · refine ⟨hcs, by simp only; omega, by simp only; omega, by simp only; omega, by simp only; omega, ?_⟩
    intro h; have := (l1.2 _ h).1; simp only at this; omega
  · exact ⟨(hb.block _ (heap_lt (hx p hp).1)).trans (hx p hp).1, (hx p hp).2⟩
/-- After the encoder has turned. -/
theorem EX.enc {ge gr : Option Nat} {was' least' m' : Nat} {l' : List Tk.Fd} (hT : Tab w be ge l (Tk.sum l) m) (he : w.heap[e]? = some (.cells (EB be was least) 65 (0, 0))) (hU : RTab w bb gr m2 l2) (hr : w.heap[r]? = some (.cells (EB bb was2 least2) 81 (0, 0))) (hgg : ∀ k, ge = some k → gr ≠ some k)
    (hz : w0.heap.size ≤ be ∧ w0.heap.size ≤ e ∧ w0.heap.size ≤ bb ∧ w0.heap.size ≤ r) (hge : ∀ k, ge = some k → w0.heap.size ≤ k) (hB : Below w0.heap.size w0 w) (hx : ∀ p ∈ bx, w.heap[p.1]? = some p.2 ∧ p.1 ≠ be ∧ p.1 ≠ e ∧ p.1 ≠ bb ∧ p.1 ≠ r ∧ ge ≠ some p.1)
    (hO : EOut w be e ge was' least' m' l' w') : EX w0 be e bb r was' least' m' l' was2 least2 m2 l2 bx w' := by
  obtain ⟨ge', hT', he', ho, hg'⟩ := hO
  obtain ⟨c1, hb1⟩ := hT.blkT
  obtain ⟨c2, hb2⟩ := hU.blkR
  have hul := hU.lt
  have hrS : ¬ ES be e ge r := by
    rintro (h | h | h)
    · exact blk_type_ne hr hb1 (by decide) h
    · exact blk_type_ne hr he (by decide) h
    · obtain ⟨cs, hc⟩ := hT.rowT r h; exact blk_type_ne hr hc (by decide) rfl
  have hbS : ¬ ES be e ge bb := by
    rintro (h | h | h)
    · exact blk_type_ne hb2 hb1 (by decide) h
    · exact blk_type_ne hb2 he (by decide) h
    · obtain ⟨cs, hc⟩ := hT.rowT bb h; exact blk_type_ne hb2 hc (by decide) rfl
  have hgS : ∀ k, gr = some k → ¬ ES be e ge k := by
    rintro k hk (h | h | h)
    · obtain ⟨cs, hc⟩ := hU.rowR k hk; exact blk_type_ne hc hb1 (by decide) h
    · obtain ⟨cs, hc⟩ := hU.rowR k hk; exact blk_type_ne hc he (by decide) h
    · exact hgg k h hk
  refine ⟨ge', gr, hT', he', hU.only ho hbS hgS, ho.block' hr hrS, ?_, hz, ?_, only_below hB ho ?_ hB.size, ?_⟩
  · intro k hk h
    rcases hg' with e1 | ⟨k', e1, hle⟩
    · exact hgg k (e1 ▸ hk) h
    · rw [hk] at e1; injection e1 with e1; have := (hul.2 k h).1; omega
  · intro k hk
    rcases hg' with e1 | ⟨k', e1, hle⟩
    · exact hge k (e1 ▸ hk)
    · rw [hk] at e1; injection e1 with e1; have := hB.size; omega
  · rintro k (h | h | h)
    · omega
    · omega
    · exact hge k h
  · intro p hp
    obtain ⟨h1, h2, h3, h4, h5, h6⟩ := hx p hp
    refine ⟨ho.block' h1 ?_, h2, h3, h4, h5, ?_⟩
    · rintro (h | h | h)
      · exact h2 h
      · exact h3 h
      · exact h6 h
    · intro h
      rcases hg' with e1 | ⟨k', e1, hle⟩
      · exact h6 (e1 ▸ h)
      · rw [h] at e1; injection e1 with e1; have := heap_lt h1; omega
/-- After the reference's encoder has turned. -/
theorem EX.ref {ge gr : Option Nat} {was' least' m' : Nat} {l' : List Tk.Fd} (hT : Tab w be ge l (Tk.sum l) m) (he : w.heap[e]? = some (.cells (EB be was least) 65 (0, 0))) (hU : RTab w bb gr m2 l2) (hr : w.heap[r]? = some (.cells (EB bb was2 least2) 81 (0, 0))) (hgg : ∀ k, ge = some k → gr ≠ some k)
    (hz : w0.heap.size ≤ be ∧ w0.heap.size ≤ e ∧ w0.heap.size ≤ bb ∧ w0.heap.size ≤ r) (hge : ∀ k, ge = some k → w0.heap.size ≤ k) (hB : Below w0.heap.size w0 w) (hx : ∀ p ∈ bx, w.heap[p.1]? = some p.2 ∧ p.1 ≠ be ∧ p.1 ≠ e ∧ p.1 ≠ bb ∧ p.1 ≠ r ∧ ge ≠ some p.1)
    (hO : ROut w bb r gr was' least' m' l' w') : EX w0 be e bb r was least m l was' least' m' l' bx w' := by
  obtain ⟨gr', hU', hr', ho, hg'⟩ := hO
  obtain ⟨c1, hb1⟩ := hT.blkT
  obtain ⟨c2, hb2⟩ := hU.blkR
  have htl := hT.lt
  have heS : ¬ RS2 bb r e := by
    rintro (h | h)
    · exact blk_type_ne he hb2 (by decide) h
    · exact blk_type_ne he hr (by decide) h
  have hbS : ¬ RS2 bb r be := by
    rintro (h | h)
    · exact blk_type_ne hb1 hb2 (by decide) h
    · exact blk_type_ne hb1 hr (by decide) h
  have hgS : ∀ k, ge = some k → ¬ RS2 bb r k := by
    rintro k hk (h | h)
    · obtain ⟨cs, hc⟩ := hT.rowT k hk; exact blk_type_ne hc hb2 (by decide) h
    · obtain ⟨cs, hc⟩ := hT.rowT k hk; exact blk_type_ne hc hr (by decide) h
  refine ⟨ge, gr', hT.only ho hbS hgS, ho.block' he heS, hU', hr', ?_, hz, hge, only_below hB ho ?_ hB.size, ?_⟩
  · intro k hk h
    rcases hg' k h with e1 | hle
    · exact hgg k hk e1
    · have := (htl.2 k hk).1; omega
  · rintro k (h | h) <;> omega
  · intro p hp
    obtain ⟨h1, h2, h3, h4, h5, h6⟩ := hx p hp
    refine ⟨ho.block' h1 ?_, h2, h3, h4, h5, h6⟩
    rintro (h | h)
    · exact h4 h
    · exact h5 h
theorem ex_elimit (h : EX w0 be e bb r was least m l was2 least2 m2 l2 bx w) (n k : Nat) (hs : Tk.sum l ≤ 65536) (hn : n ≤ 4294967295) (hk : min n 4096 = k) : Calls Try.prog 17 #[.pointer (some ⟨e, 0, none⟩), .int .i64 (n : Int)] w fun en w' => en = .returned (.int .i64 0) ∧ EX w0 be e bb r was (min least k) k (Tk.shr k l) was2 least2 m2 l2 bx w' := by
  obtain ⟨ge, gr, hT, he, hU, hr, hgg, hz, hge, hB, hx⟩ := h
  refine (elimit_good w be e ge was least m n k l hT he hs hn hk).mono ?_
  rintro en w' ⟨rfl, hO⟩
  exact ⟨rfl, EX.enc hT he hU hr hgg hz hge hB hx hO⟩
theorem ex_rlimit (h : EX w0 be e bb r was least m l was2 least2 m2 l2 bx w) (n k : Nat) (hs : Tk.sum l2 ≤ 65536) (hn : n ≤ 4294967295) (hk : min n 4096 = k) : Calls Try.prog 18 #[.pointer (some ⟨r, 0, none⟩), .int .i64 (n : Int)] w fun en w' => en = .returned (.int .i64 0) ∧ EX w0 be e bb r was least m l was2 (min least2 k) k (Tk.shr k l2) bx w' := by
  obtain ⟨ge, gr, hT, he, hU, hr, hgg, hz, hge, hB, hx⟩ := h
  refine (rlimit_good w bb r gr was2 least2 m2 n k l2 hU hr hs hn hk).mono ?_
  rintro en w' ⟨rfl, hO⟩
  exact ⟨rfl, EX.ref hT he hU hr hgg hz hge hB hx hO⟩
theorem ex_write (h : EX w0 be e bb r was least m l was2 least2 m2 l2 bx w) (A : Option Addr) (c : Nat) (fs : List Tk.Fd) (ho : w.ownsRow 0 57 2 (.slice A fs.length c) fs.length (fcells fs)) (hv : ∀ k, (Value.slice A fs.length c).ownBlock = some k → ∃ ob, (k, ob) ∈ bx)
    (hs : Tk.sum l ≤ m) (hm : m ≤ 65536) (hwas : was ≤ 65536) (hle : least ≤ 65536) (hsh : ∀ f ∈ fs, Hk.Short f) (hn : fs.length ≤ 1099511627776) (hlen : Hk.size fs + 12 ≤ 140737488355328) :
    Calls Try.prog 14 #[.pointer (some ⟨e, 0, none⟩), .slice A fs.length c] w fun en w' => en = .returned (.string (strN (Hk.write m was least fs l).1)) ∧ EX w0 be e bb r m m m (Hk.write m was least fs l).2 was2 least2 m2 l2 bx w' := by
  obtain ⟨ge, gr, hT, he, hU, hr, hgg, hz, hge, hB, hx⟩ := h
  refine (write_any w be e ge was least m l A c fs hT he ho (fun k hk hg => ?_) hs hm hwas hle hsh hn hlen).mono ?_
  · obtain ⟨ob, hp⟩ := hv k hk
    exact (hx _ hp).2.2.2.2.2 hg
  · rintro en w' ⟨rfl, hO⟩
    exact ⟨rfl, EX.enc hT he hU hr hgg hz hge hB hx hO⟩
theorem ex_rwrite (h : EX w0 be e bb r was least m l was2 least2 m2 l2 bx w) (A : Option Addr) (c : Nat) (fs : List Tk.Fd) (hrow : FRow w A fs.length fs) (hA : ∀ x, A = some x → 0 < fs.length → x.block < w0.heap.size)
    (hs : Tk.sum l2 ≤ m2) (hm : m2 ≤ 65536) (hle : least2 ≤ 65536) (hsh : ∀ f ∈ fs, Hk.Short f) (hn : fs.length ≤ 1099511627776) (hlen : Hk.size fs + 12 ≤ 140737488355328) :
    Calls Try.prog 19 #[.pointer (some ⟨r, 0, none⟩), .slice A fs.length c] w fun en w' => en = .returned (.string (strN (Hk.write m2 was2 least2 fs l2).1)) ∧ EX w0 be e bb r was least m l m2 m2 m2 (Hk.write m2 was2 least2 fs l2).2 bx w' := by
  obtain ⟨ge, gr, hT, he, hU, hr, hgg, hz, hge, hB, hx⟩ := h
  refine (rwrite_any w bb r gr was2 least2 m2 l2 A c fs hU hr hrow (fun x hx' hn0 hS => ?_) hs hm hle hsh hn hlen).mono ?_
  · have := hA x hx' hn0
    rcases hS with h1 | h1 <;> omega
  · rintro en w' ⟨rfl, hO⟩
    exact ⟨rfl, EX.ref hT he hU hr hgg hz hge hB hx hO⟩
theorem ex_esize (h : EX w0 be e bb r was least m l was2 least2 m2 l2 bx w) : Calls Try.prog 20 #[.pointer (some ⟨e, 0, none⟩)] w fun en w' => en = .returned (.int .i64 (Tk.sum l : Nat)) ∧ w = w' := by
  obtain ⟨ge, gr, hT, he, _⟩ := h
  exact esize_any w be e _ m ge l hT (bcell_of he 0 _ rfl)
theorem ex_rsize (h : EX w0 be e bb r was least m l was2 least2 m2 l2 bx w) (hs : Tk.sum l2 ≤ 65536) : Calls Try.prog 21 #[.pointer (some ⟨r, 0, none⟩)] w fun en w' => en = .returned (.int .i64 (Tk.sum l2 : Nat)) ∧ EX w0 be e bb r was least m l was2 least2 m2 l2 bx w' := by
  have h0 := h
  obtain ⟨ge, gr, hT, he, hU, hr, _⟩ := h
  refine (resize6_any w bb r was2 least2 m2 gr l2 hU hr hs).mono ?_
  rintro en w' ⟨rfl, hb⟩
  exact ⟨rfl, h0.below hb⟩
end
theorem EX.new {w w1 w2 : World} {e r : Nat} (hT : Tab w1 (w.heap.size + 1) none [] 0 4096) (he : w1.heap[e]? = some (.cells (EB (w.heap.size + 1) 4096 4096) 65 (0, 0))) (he1 : w.heap.size + 1 < e) (hb1 : Below w.heap.size w w1)
    (hU : RTab w2 w1.heap.size none 4096 []) (hr : w2.heap[r]? = some (.cells (EB w1.heap.size 4096 4096) 81 (0, 0))) (hr1 : w1.heap.size < r) (hb2 : Below w1.heap.size w1 w2) :
    EX w (w.heap.size + 1) e w1.heap.size r 4096 4096 4096 [] 4096 4096 4096 [] [] w2 := by
  have h1 := hT.lt
  have h2 := heap_lt he
  have h3 := hb1.size
  exact ⟨none, none, hT.below hb2, (hb2.block e h2).trans he, hU, hr, (fun k h => by cases h), ⟨by omega, by omega, by omega, by omega⟩, (fun k h => by cases h), hb1.trans (hb2.mono hb1.size), (fun p hp => by cases hp)⟩
/-- What is lent is kept where its block is. -/
theorem Lent.of_heap {w w' : World} {B g cap : Nat} {fs : List Tk.Fd} (h : Lent w B g cap fs) (hh : w'.heap[g]? = w.heap[g]?) : Lent w' B g cap fs := by
  refine ⟨h.1, ?_⟩
  rcases h.2 with h2 | ⟨g', cap', cur, hv, hB, hb, r⟩
  · exact .inl h2
  · injection hv with e1 _ e3
    injection e1 with e1
    injection e1 with e1
    subst e1
    subst e3
    exact .inr ⟨g, cap, cur, rfl, hB, hh.trans hb, r⟩
end Go.Proofs.Ytmjibpjnhehnnaa
