/- A strings.Builder of the call's own: copyCheck and WriteString walked; String by the shelf's contract. -/
import Derived.Test.YtmjibpjnhehnnaaSh
import Derived.Test.YtmjibpjnhehnnaaSt
import Derived.Laws.Externs
import Derived.Lib.Builder
import Derived.Lib.AppendStr
import Derived.Lib.Hide
import Derived.WalkKit
namespace Go.Proofs.Ytmjibpjnhehnnaa
open Go.RowKit
attribute [local go_sem ↓] Go.wp_at_zero Go.wp_at_succ

theorem bcell_of {w : World} {b : Nat} {cs : Array Value} {T : TypeId} (h : w.heap[b]? = some (.cells cs T (0, 0))) (i : Nat) (u : Value) (hu : cs[i]? = some u) : w.cell? ⟨b, i, none⟩ = some u := (cell_of_row w b i _ _ _ h).trans hu
theorem bld_info : (Try.prog.info? 69).map (·.size) = some 2 := by kernel_rfl
theorem bld_lies : liesAt Try.prog Try.prog.depth 69 (2 / Try.prog.cellsOf 69) 0 69 1 = true := by kernel_rfl
set_option maxRecDepth 100000 in
theorem copy_used (b : Nat) (w : World) (h0 : w.cell? ⟨b, 0, none⟩ = some (.pointer (some ⟨b, 0, none⟩))) :
    Calls Try.prog 48 #[.pointer (some ⟨b, 0, none⟩)] w fun e w' => e = .returned (.tuple #[]) ∧ w = w' := by
  obtain ⟨j, hj, _⟩ := Option.map_eq_some_iff.1 bld_info
  go_enter Try.func48, Try.ntmps48
  go_wp2
  rw [Lib.run_neq_ptr_same w _ Try.underlying66 hj]
  go_wp2
  go_end0
  exact ⟨rfl, rfl⟩
set_option maxRecDepth 100000 in
theorem copy_fresh (b : Nat) (w : World) (h0 : w.cell? ⟨b, 0, none⟩ = some (.pointer none)) (hsh : w.shape? b = some (69, 2)) (hfz : w.frozen? ⟨b, 0, none⟩ = false) :
    Calls Try.prog 48 #[.pointer (some ⟨b, 0, none⟩)] w fun e w' => e = .returned (.tuple #[]) ∧ w' = w.setCell ⟨b, 0, none⟩ (.pointer (some ⟨b, 0, none⟩)) := by
  obtain ⟨j, hj, hjs⟩ := Option.map_eq_some_iff.1 bld_info
  go_enter Try.func48, Try.ntmps48
  go_wp2
  rw [Lib.run_to_unsafe w ⟨b, 0, none⟩ Try.underlying66 Try.underlying109 hj (by rw [hjs]; decide) hsh (Nat.zero_lt_succ 1)]
  simp only [Result.andThen]
  rw [Oper.upon_value]
  go_wp2
  rw [run_callFunc_extern Try.func65 (by kernel_rfl) (by kernel_rfl) (by kernel_rfl) (e := Extern.AbiNoEscape.same) (by kernel_rfl)]
  rw [Lib.run_noEscape]
  simp only [Result.andThen]
  rw [Oper.upon_value]
  go_wp2
  rw [Lib.run_from_unsafe w ⟨b, 0, none⟩ Try.underlying109 Try.underlying66 hj hsh bld_lies]
  simp only [Result.andThen]
  rw [Oper.upon_value]
  go_wp2
  go_end0
  exact ⟨rfl, rfl⟩

/-- A builder in block b that holds the bytes l. -/
def Bld (w : World) (B b : Nat) (v : Value) (l : List Nat) : Prop :=
  B ≤ b ∧ (∃ p, (p = .pointer none ∨ p = .pointer (some ⟨b, 0, none⟩)) ∧ w.heap[b]? = some (.cells #[p, v] 69 (0, 0))) ∧ w.ownsRow B 5 1 v l.length (u8s l)
theorem Bld.lt {w : World} {B b : Nat} {v : Value} {l : List Nat} (h : Bld w B b v l) : B ≤ b ∧ b < w.heap.size := by
  obtain ⟨h1, ⟨p, _, hb⟩, _⟩ := h
  exact ⟨h1, heap_lt hb⟩
/-- The block of an owned row is a row of its type. -/
theorem own_type {w : World} {B e n : Nat} {v : Value} {sz : Nat} {xs : List Value} (h : w.ownsRow B e sz v n xs) (k : Nat) (hk : v.ownBlock = some k) : B ≤ k ∧ ∃ cs, w.heap[k]? = some (.cells cs e (0, 0)) := by
  rcases h.2 with ⟨rfl, _⟩ | ⟨g, cap, cur, rfl, hb, hh, _⟩
  · simp [Value.ownBlock] at hk
  · simp [Value.ownBlock] at hk
    subst hk
    exact ⟨hb, _, hh⟩
theorem blk_type_ne {w : World} {k k' : Nat} {cs cs' : Array Value} {e e' : TypeId} {f f' : Nat × Nat} (h : w.heap[k]? = some (.cells cs e f)) (h' : w.heap[k']? = some (.cells cs' e' f')) (hne : e ≠ e') : k ≠ k' := by
  intro hk
  subst hk
  rw [h] at h'
  injection h' with h'
  injection h' with _ h'
  exact hne h'
theorem Bld.ne {w : World} {B b : Nat} {v : Value} {l : List Nat} (h : Bld w B b v l) (k : Nat) (hk : v.ownBlock = some k) : k ≠ b := by
  obtain ⟨_, ⟨p, _, hb⟩, hr⟩ := h
  obtain ⟨_, cs, hc⟩ := own_type hr k hk
  exact blk_type_ne hc hb (by decide)
theorem Bld.only {S : Nat → Prop} {w w' : World} {B b : Nat} {v : Value} {l : List Nat} (h : Bld w B b v l) (ho : Only S w w') (hb : ¬ S b) (hg : ∀ k, v.ownBlock = some k → ¬ S k) : Bld w' B b v l := by
  obtain ⟨h1, ⟨p, hp, hbk⟩, hr⟩ := h
  refine ⟨h1, ⟨p, hp, ho.block' hbk hb⟩, hr.1, ?_⟩
  rcases hr.2 with h2 | ⟨g, cap, cur, rfl, hbg, hh, r⟩
  · exact .inl h2
  · exact .inr ⟨g, cap, cur, rfl, hbg, ho.block' hh (hg g (by simp [Value.ownBlock])), r⟩
/-- What a write leaves. -/
def Wrote (w : World) (B b : Nat) (v : Value) (l : List Nat) (w' : World) : Prop := ∃ v', Bld w' B b v' l ∧ Only (fun k => k = b ∨ v.ownBlock = some k) w w'
theorem strCells_nats (s : ByteArray) : Lib.strCells s = u8s (nats s) := by
  simp only [Lib.strCells, u8s, nats, List.map_map]
  rfl
theorem copy_any (w : World) (B b : Nat) (v : Value) (l : List Nat) (h : Bld w B b v l) :
    Calls Try.prog 48 #[.pointer (some ⟨b, 0, none⟩)] w fun e w' => e = .returned (.tuple #[]) ∧ w'.heap[b]? = some (.cells #[.pointer (some ⟨b, 0, none⟩), v] 69 (0, 0)) ∧ Bld w' B b v l ∧ Only (· = b) w w' := by
  obtain ⟨h1, ⟨p, hp, hb⟩, hr⟩ := h
  rcases hp with rfl | rfl
  · refine (copy_fresh b w (bcell_of hb 0 _ rfl) (by simp [World.shape?, hb]) (frozen_of_row w b 0 _ _ hb)).mono ?_
    rintro e w' ⟨rfl, rfl⟩
    have hb' := (heap_setCell_same w b 0 _ _ (.pointer (some ⟨b, 0, none⟩)) hb).trans (show _ = some (Obj.cells #[.pointer (some ⟨b, 0, none⟩), v] 69 (0, 0)) from rfl)
    have hO : Only (· = b) w (w.setCell ⟨b, 0, none⟩ (.pointer (some ⟨b, 0, none⟩))) := Only.setCell (S := (· = b)) (Only.refl _ w) (.inr rfl) _
    refine ⟨rfl, hb', ⟨h1, ⟨_, .inr rfl, hb'⟩, ?_⟩, hO⟩
    refine ⟨hr.1, ?_⟩
    rcases hr.2 with h2 | ⟨g, cap, cur, rfl, hbg, hh, r⟩
    · exact .inl h2
    · exact .inr ⟨g, cap, cur, rfl, hbg, hO.block' hh (blk_type_ne hh hb (by decide)), r⟩
  · refine (copy_used b w (bcell_of hb 0 _ rfl)).mono ?_
    rintro e w' ⟨rfl, rfl⟩
    exact ⟨rfl, hb, ⟨h1, ⟨_, .inr rfl, hb⟩, hr⟩, Only.refl _ _⟩
set_option maxRecDepth 100000 in
set_option maxHeartbeats 1000000 in
theorem wstr_any (w : World) (B b : Nat) (v : Value) (l : List Nat) (s : ByteArray) (h : Bld w B b v l) (hlen : l.length + s.size ≤ 140737488355328) :
    Calls Try.prog 31 #[.pointer (some ⟨b, 0, none⟩), .string s] w fun e w' => e = .returned (.tuple #[.int .i64 s.size, .nilIface]) ∧ Wrote w B b v (l ++ nats s) w' := by
  obtain ⟨i0, hi, hz0, hz1, hz2⟩ := info_open info_u8
  have HC := Lib.hid (copy_any w B b v l h)
  have hlt := h.lt
  have HL := Lib.hid hlen
  clear h hlen
  go_enter Try.func31, Try.ntmps31
  go_wp2_with fail
  refine HC.out.mono ?_
  rintro e w1 ⟨rfl, hb1, hB1, hO1⟩
  have hne := hB1.ne
  have hown := hB1.2.2
  have hs1 := hO1.size
  have c1 : w1.cell? ⟨b, 1, none⟩ = some v := bcell_of hb1 1 _ rfl
  obtain ⟨A, c, rfl⟩ := own_slice hown
  have HB1 := Lib.hid hb1
  clear hB1 hb1
  go_wp2_with (at_builtin; go_must (refine Lib.wpList_append_own_string _ rfl _ _ 67 9 rfl B 5 i0 Try.underlying67 Try.underlying9 hi hz0 hz1 hz2 (.slice A l.length c) l.length (u8s l) (by rfl) hown s (by rfl) (by have := HL.out; unfold maxLen; omega) HL.out (by omega) ?_; intro v' w2 hown' hgrow hnil; have hb2 : w2.heap[b]? = _ := (hgrow.block b (heap_lt HB1.out) (fun e => hne b e.symm rfl)).trans HB1.out; have hO2 : Only (fun k => k = b ∨ (Value.slice A l.length c).ownBlock = some k) w w2 := (hO1.mono (fun k _ hk => .inl hk)).grown hgrow (fun k hk => .inr (.inr hk)); have f1 : w2.frozen? ⟨b, 1, none⟩ = false := frozen_of_row w2 b 1 _ _ hb2; have c0 : w2.cell? ⟨b, 1, none⟩ = some (.slice A l.length c) := bcell_of hb2 1 _ rfl; have HB2 := Lib.hid hb2; obtain ⟨A', c', rfl⟩ := own_slice hown'; clear hb2 hne c1))
  go_ret2
  have hb3 := (heap_setCell_same w2 b 1 _ _ (.slice A' (l.length + s.size) c') HB2.out).trans (show _ = some (Obj.cells #[.pointer (some ⟨b, 0, none⟩), .slice A' (l.length + s.size) c'] 69 (0, 0)) from rfl)
  refine ⟨rfl, _, ⟨hlt.1, ⟨_, .inr rfl, hb3⟩, ?_⟩, hO2.setCell (.inr (.inl rfl)) _⟩
  have hown2 : w2.ownsRow B 5 1 (.slice A' (l.length + s.size) c') (l ++ nats s).length (u8s (l ++ nats s)) := by
    rw [List.length_append, nats_length, u8s_append, ← strCells_nats]
    exact hown'
  refine ⟨hown2.1, ?_⟩
  rcases hown2.2 with h2 | ⟨g, cap, cur, hv, hbg, hh, r⟩
  · exact .inl h2
  · exact .inr ⟨g, cap, cur, hv, hbg, (Below.heap_setCell _ _ _ _ (blk_type_ne hh HB2.out (by decide))).trans hh, r⟩
/-- What reading the builder's text may change: its own block and rows of bytes. -/
def SS (w : World) (B b k : Nat) : Prop := k = b ∨ (B ≤ k ∧ ∃ c fz, w.heap[k]? = some (.cells c 5 fz))
theorem bstr_any (w : World) (B b : Nat) (v : Value) (l : List Nat) (h : Bld w B b v l) (hl : Hf.Byte l) :
    Calls Try.prog 34 #[.pointer (some ⟨b, 0, none⟩)] w fun e w' => e = .returned (.string (strN l)) ∧ Only (SS w B b) w w' := by
  have hlt := h.lt
  have hne := h.ne
  obtain ⟨h1, ⟨p, hp, hb⟩, hr⟩ := h
  have hbc : Lib.byteCells (l.map UInt8.ofNat) = u8s l := by
    have h2 := nats_strN l hl
    have h3 : Lib.strCells (strN l) = u8s (nats (strN l)) := strCells_nats _
    rw [h2] at h3
    exact h3
  have hAt : Lib.BuilderAt 69 5 B b p (Lib.byteCells (l.map UInt8.ofNat)) w := ⟨h1, v, hb, by rw [hbc, u8s_length]; exact hr, fun e => hne b e rfl⟩
  have hIs : Lib.IsBuilder 69 5 B b (Lib.byteCells (l.map UInt8.ofNat)) w := by
    rcases hp with rfl | rfl
    · exact .inl hAt
    · exact .inr hAt
  refine (sh_Builder_String_any_k B b (l.map UInt8.ofNat) w (Lib.IsBuilderF.of hIs) (by omega)).mono ?_
  rintro e w' ⟨rfl, _, hB, hk⟩
  refine ⟨rfl, hB.os, hB.tape, hB.output, hB.size, fun k hlt hS => ?_⟩
  rcases Nat.lt_or_ge k B with h2 | h2
  · exact hB.block k h2
  · have hg : w.heap[k]? = some w.heap[k] := Array.getElem?_eq_getElem hlt
    refine (hk k _ hg (fun e => hS (.inl (by injection e))) ?_).trans hg.symm
    intro c fz e
    exact hS (.inr ⟨h2, c, fz, by rw [hg, e]⟩)
end Go.Proofs.Ytmjibpjnhehnnaa
