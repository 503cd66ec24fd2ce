/- The law FnExactBlockGet (part 3 of 3): for every input the call answers true and its arguments read afterwards as before. No condition beyond the row's own. -/
import Derived.Deep.Slices
import Derived.Deep.Fields
import Derived.ChangeSame
import Derived.ProofKit
import Derived.WideShapes
import Derived.RowKit
import Derived.Laws.BitsLemmas
import Derived.Lib.LazyBuf
import Derived.Lib.ItoaNum
import Derived.Lib.Join
import Derived.Lib.AtoiAll
import Derived.Test.YtgbdnbbfgcogjaaDoorTie
import Derived.LaidMore
import Derived.Lay
import Derived.OpenShut
import Derived.Stop.Joined
import Derived.Stop.LaidErr
import Derived.Test.YtgbdnbbfgcogjaaDoorRows
import Derived.WalkKit
import Derived.ShutString
import Derived.ChangeOld
import Derived.Below
import Derived.SizedLaws
import Derived.Test.YtgbdnbbfgcogjaaDoorCards
import Derived.SevenTiedAt
import Derived.Test.YtgbdnbbfgcogjaaDoorCFnExactBlockGet2
namespace Go.Proofs.YtgbdnbbfgcogjaaDoor.Sq
open Go Go.RowKit Go.Shelf Go.Proofs.YtgbdnbbfgcogjaaDoor.Q Go.Proofs.YtgbdnbbfgcogjaaDoorW.PrintWords Go.Proofs.YtgbdnbbfgcogjaaDoorW.PrintLast Go.Proofs.YtgbdnbbfgcogjaaDoorW.PrintMore
attribute [local go_sem] Oper.semAt_some
set_option linter.unusedVariables false
set_option linter.unusedSimpArgs false
/-- A text cut at the first place of a byte. -/
def cut1 (c : UInt8) (l : List UInt8) : List UInt8 × List UInt8 × Bool := if 0 ≤ Lib.indexByte l c then (l.take (Lib.indexByte l c).toNat, l.drop ((Lib.indexByte l c).toNat + 1), true) else (l, [], false)
theorem cut_eval (c : UInt8) (s : ByteArray) (hs : s.size ≤ 1000000000) : strings_Cut.f s ⟨#[c]⟩ = some (tx (cut1 c s.data.toList).1, tx (cut1 c s.data.toList).2.1, (cut1 c s.data.toList).2.2) := by
 have hx := tx_of s
 have hl : s.data.toList.length = s.size := Array.length_toList
 unfold strings_Cut.f stringslite_Cut.f stringslite_Index.f
 generalize s.data.toList = l at hx hl
 subst hx
 simp only [Option.bind_some]
 rw [tx_size]
 have h1 : ((⟨#[c]⟩ : ByteArray).size : Int) = 1 := rfl
 rw [h1]
 unfold cut1
 rcases index_cases c l with ⟨hi, _⟩ | ⟨o, hi, ho, _, _⟩
 ·rw [hi, if_neg (by omega), if_neg (by omega), Option.bind_some]
  rfl
 ·rw [hi]
  have hw : wrap64 ((o : Int) + 1) = ((o + 1 : Nat) : Int) := by unfold wrap64; omega
  rw [hw, if_pos (by omega), if_pos (by omega), if_pos (by omega), if_pos (by omega), if_pos (by omega), if_pos (by omega), Option.bind_some, Int.toNat_natCast, Int.toNat_natCast, tx_extract, tx_extract, List.take_length, List.drop_zero]
/-- A block that holds two numbers, and what is read of it. -/
def Two (W : World) (b : Nat) (t : TypeId) (u v : Value) : Prop := W.heap[b]? = some (.cells #[u, v] t (0, 0))
theorem Two.c0 {W : World} {b : Nat} {t : TypeId} {u v : Value} (h : Two W b t u v) : W.cell? ⟨b, 0, none⟩ = some u := by simp [World.cell?, show W.heap[b]? = _ from h]
theorem Two.c1 {W : World} {b : Nat} {t : TypeId} {u v : Value} (h : Two W b t u v) : W.cell? ⟨b, 1, none⟩ = some v := by simp [World.cell?, show W.heap[b]? = _ from h]
theorem Two.d0 {W : World} {b : Nat} {t : TypeId} {u v : Value} (h : Two W b t u v) : W.frozen? ⟨b, 0, none⟩ = false := by simp [World.frozen?, show W.heap[b]? = _ from h]
theorem Two.d1 {W : World} {b : Nat} {t : TypeId} {u v : Value} (h : Two W b t u v) : W.frozen? ⟨b, 1, none⟩ = false := by simp [World.frozen?, show W.heap[b]? = _ from h]
theorem Two.set0 {W : World} {b : Nat} {t : TypeId} {u v : Value} (x : Value) (h : Two W b t u v) : Two (W.setCell ⟨b, 0, none⟩ x) b t x v := by
 obtain ⟨hlt, hk⟩ := Array.getElem?_eq_some_iff.1 h
 show (W.heap.modify b _)[b]? = _
 rw [Array.getElem?_eq_getElem (by rw [Array.size_modify]; exact hlt), Array.getElem_modify_self, hk]
 rfl
theorem Two.set1 {W : World} {b : Nat} {t : TypeId} {u v : Value} (x : Value) (h : Two W b t u v) : Two (W.setCell ⟨b, 1, none⟩ x) b t u x := by
 obtain ⟨hlt, hk⟩ := Array.getElem?_eq_some_iff.1 h
 show (W.heap.modify b _)[b]? = _
 rw [Array.getElem?_eq_getElem (by rw [Array.size_modify]; exact hlt), Array.getElem_modify_self, hk]
 rfl
/-- What BlockGet answers. -/
def blockGetF (k : Nat) (s : ByteArray) : Option (Int × Int × Bool) :=
 if s.size ≤ 1000000000 then
  (impl_AddrGet.f k (tx (cut1 47 s.data.toList).1)).bind fun q =>
   match Lib.atoiAll (cut1 47 s.data.toList).2.1 with
   | .ok n => if q.2 = true then (impl_BlockText.f k q.1 n).bind fun t => if t = s then some (q.1, n, true) else some (0, 0, false) else some (0, 0, false)
   | _ => some (0, 0, false)
 else none
set_option maxRecDepth 100000 in
set_option maxHeartbeats 4000000 in
theorem blockGet_calls (k : Nat) (s : ByteArray) (r1 r2 : Int) (r3 : Bool) (w : World) (hT : Tb.T2 w) (h : blockGetF k s = some (r1, r2, r3)) :
  Calls Tryd.prog 23 #[.string s] w fun e w' => e = .returned (.tuple #[.agg #[.int .i64 r1, .int .i64 r2], .bool r3]) ∧ Below w.heap.size w w' := by
 unfold blockGetF at h
 by_cases hsz : s.size ≤ 1000000000
 ·rw [if_pos hsz] at h
  obtain ⟨⟨a, ok⟩, hA, h⟩ := Option.bind_eq_some_iff.1 h
  dsimp only at h
  have hcut := fun W => strings_Cut.calls s ⟨#[47]⟩ _ _ _ W (cut_eval 47 s hsz)
  have hms : (tx (cut1 47 s.data.toList).2.1).size ≤ 281474976710656 := by
   have hl : s.data.toList.length = s.size := Array.length_toList
   rw [tx_size]
   unfold cut1
   split
   ·rw [List.length_drop]; omega
   ·simp
  have hato := fun W (hW : Tb.T2 W) => atoi_calls (tx (cut1 47 s.data.toList).2.1) hms W hW
  rw [tx_data] at hato
  generalize (cut1 47 s.data.toList).1 = b at hcut hA
  generalize (cut1 47 s.data.toList).2.1 = m at hcut hato h hms
  generalize (cut1 47 s.data.toList).2.2 = f at hcut
  have hget := fun W (hW : Tb.T2 W) => impl_AddrGet.calls k (tx b) a ok W hW hA
  clear hA
  have hB0 : Below w.heap.size w (w.alloc (.cells #[.int .i64 0, .int .i64 0] 27)) := (Below.refl _ w).alloc (Nat.le_refl _) _
  have x0 : (w.alloc (.cells #[.int .i64 0, .int .i64 0] 27)).heap[w.heap.size]? = some (.cells #[.int .i64 0, .int .i64 0] 27 (0, 0)) := World.alloc_heap_new w _
  go_enter Tryd.func23, Tryd.ntmps23
  go_wp2_with (go_at_call 51; refine (hcut _).mono ?_; rintro e w' ⟨rfl, ⟨nd, rfl⟩⟩)
  refine (hget _ (hT.below (pw_below_drewN hB0 nd))).mono ?_
  rintro e w1 ⟨rfl, hb1⟩
  have hbel1 : Below w.heap.size w w1 := (pw_below_drewN hB0 nd).trans (hb1.mono (by simp))
  have e1 : w1.heap[w.heap.size]? = some (.cells #[.int .i64 0, .int .i64 0] 27 (0, 0)) := (hb1.block _ (by simp)).trans x0
  have hs1 : w.heap.size + 1 ≤ w1.heap.size := (Array.getElem?_eq_some_iff.1 e1).1
  clear hb1 hget hcut
  have hato := hato w1 (hT.below hbel1)
  dsimp only
  rcases hc : Lib.atoiAll m with v | _ | _
  ·rw [hc] at h
   have hat' : Calls Tryd.prog 49 #[.string (tx m)] w1 fun e w' => e = .returned (.tuple #[.int .i64 v, .nilIface]) ∧ Below w1.heap.size w1 w' := hato.mono fun e w' ⟨n', ev, he, hb, hc'⟩ => by
    rcases hc' with ⟨h1, h2⟩ | ⟨h1, _⟩
    ·rw [hc] at h1
     cases h1
     exact ⟨by rw [he, h2], hb⟩
    ·exact absurd hc (h1 v)
   clear hato
   dsimp only at h
   cases ok
   ·rw [if_neg (by simp)] at h
    cases h
    go_wp2_with (go_at_call 49; refine hat'.mono ?_; rintro e w2 ⟨rfl, hb2⟩; have x2 : ∀ o, Two (w2.alloc o) w.heap.size 27 (.int .i64 0) (.int .i64 0) := (fun o => (Below.heap_alloc _ _ _ (Nat.lt_of_lt_of_le hs1 hb2.size)).trans ((hb2.block _ hs1).trans e1)); have c0 := fun o => (x2 o).c0; have d0 := fun o => (x2 o).d0; have c1 := fun o x => ((x2 o).set0 x).c1; have d1 := fun o x => ((x2 o).set0 x).d1)
    refine bodyPost_ret (results_ct rfl _ _ w.heap.size 27 #[.int .i64 0, .int .i64 0] (0, 0) _ rfl (((x2 _).set0 _).set1 _) Tryd.underlying27 rfl (by kernel_rfl)) rfl ?_
    exact ⟨rfl, (((hbel1.trans (hb2.mono hbel1.size)).alloc (Nat.le_trans hbel1.size hb2.size) _).setCell (p := ⟨w.heap.size, 0, none⟩) (Nat.le_refl _) _).setCell (p := ⟨w.heap.size, 1, none⟩) (Nat.le_refl _) _⟩
   ·rw [if_pos rfl] at h
    obtain ⟨t, ht, h⟩ := Option.bind_eq_some_iff.1 h
    have hbt := fun W (hW : Tb.T2 W) => impl_BlockText.calls k a v t W (Tb.T1.of hW) ht
    go_wp2_with (go_at_call 49; refine hat'.mono ?_; rintro e w2 ⟨rfl, hb2⟩)
    have hbel2 : Below w.heap.size w (w2.alloc (.cells #[.int .i64 a, .int .i64 v] 27)) := (hbel1.trans (hb2.mono hbel1.size)).alloc (Nat.le_trans hbel1.size hb2.size) _
    refine (hbt _ (hT.below hbel2)).mono ?_
    rintro e w3 ⟨rfl, hb3⟩
    have y0 : Two w3 w.heap.size 27 (.int .i64 0) (.int .i64 0) := (hb3.block _ (by have := hb2.size; simp; omega)).trans ((Below.heap_alloc _ _ _ (Nat.lt_of_lt_of_le hs1 hb2.size)).trans ((hb2.block _ hs1).trans e1))
    have z0 : Two w3 w2.heap.size 27 (.int .i64 a) (.int .i64 v) := (hb3.block _ (by simp)).trans (World.alloc_heap_new w2 _)
    have c0 := y0.c0
    have d0 := y0.d0
    have c1 := fun x => (y0.set0 x).c1
    have d1 := fun x => (y0.set0 x).d1
    have c2 := z0.c0
    have c3 := z0.c1
    dsimp only
    by_cases hts : t = s
    ·rw [if_pos hts] at h
     cases h
     go_wp2
     refine bodyPost_ret (results_ct rfl _ _ w.heap.size 27 #[.int .i64 r1, .int .i64 r2] (0, 0) _ rfl (((y0).set0 _).set1 _) Tryd.underlying27 rfl (by kernel_rfl)) rfl ?_
     exact ⟨rfl, ((hbel2.trans (hb3.mono hbel2.size)).setCell (p := ⟨w.heap.size, 0, none⟩) (Nat.le_refl _) _).setCell (p := ⟨w.heap.size, 1, none⟩) (Nat.le_refl _) _⟩
    ·rw [if_neg hts] at h
     cases h
     have hne : (t.toList == s.toList) = false := beq_eq_false_iff_ne.2 fun e => hts (by
      rw [ByteArray.toList_eq, ByteArray.toList_eq] at e
      rw [← tx_of t, ← tx_of s, e])
     go_wp2
     refine bodyPost_ret (results_ct rfl _ _ w.heap.size 27 #[.int .i64 0, .int .i64 0] (0, 0) _ rfl (((y0).set0 _).set1 _) Tryd.underlying27 rfl (by kernel_rfl)) rfl ?_
     exact ⟨rfl, ((hbel2.trans (hb3.mono hbel2.size)).setCell (p := ⟨w.heap.size, 0, none⟩) (Nat.le_refl _) _).setCell (p := ⟨w.heap.size, 1, none⟩) (Nat.le_refl _) _⟩
  ·rw [hc] at h
   have hat' : Calls Tryd.prog 49 #[.string (tx m)] w1 fun e w' => (∃ nv te pe, e = .returned (.tuple #[.int .i64 nv, .iface te pe])) ∧ Below w1.heap.size w1 w' := hato.mono fun e w' ⟨n', ev, he, hb, hc'⟩ => by
    rcases hc' with ⟨h1, _⟩ | ⟨_, te, pe, h2⟩
    ·rw [hc] at h1
     cases h1
    ·exact ⟨⟨n', te, pe, by rw [he, h2]⟩, hb⟩
   clear hato
   dsimp only at h
   cases ok
   ·cases h
    go_wp2_with (go_at_call 49; refine hat'.mono ?_; rintro e w2 ⟨⟨nv, te, pe, rfl⟩, hb2⟩; have x2 : ∀ o, Two (w2.alloc o) w.heap.size 27 (.int .i64 0) (.int .i64 0) := (fun o => (Below.heap_alloc _ _ _ (Nat.lt_of_lt_of_le hs1 hb2.size)).trans ((hb2.block _ hs1).trans e1)); have c0 := fun o => (x2 o).c0; have d0 := fun o => (x2 o).d0; have c1 := fun o x => ((x2 o).set0 x).c1; have d1 := fun o x => ((x2 o).set0 x).d1)
    refine bodyPost_ret (results_ct rfl _ _ w.heap.size 27 #[.int .i64 0, .int .i64 0] (0, 0) _ rfl (((x2 _).set0 _).set1 _) Tryd.underlying27 rfl (by kernel_rfl)) rfl ?_
    exact ⟨rfl, (((hbel1.trans (hb2.mono hbel1.size)).alloc (Nat.le_trans hbel1.size hb2.size) _).setCell (p := ⟨w.heap.size, 0, none⟩) (Nat.le_refl _) _).setCell (p := ⟨w.heap.size, 1, none⟩) (Nat.le_refl _) _⟩
   ·cases h
    go_wp2_with (go_at_call 49; refine hat'.mono ?_; rintro e w2 ⟨⟨nv, te, pe, rfl⟩, hb2⟩; have x2 : ∀ o, Two (w2.alloc o) w.heap.size 27 (.int .i64 0) (.int .i64 0) := (fun o => (Below.heap_alloc _ _ _ (Nat.lt_of_lt_of_le hs1 hb2.size)).trans ((hb2.block _ hs1).trans e1)); have c0 := fun o => (x2 o).c0; have d0 := fun o => (x2 o).d0; have c1 := fun o x => ((x2 o).set0 x).c1; have d1 := fun o x => ((x2 o).set0 x).d1)
    refine bodyPost_ret (results_ct rfl _ _ w.heap.size 27 #[.int .i64 0, .int .i64 0] (0, 0) _ rfl (((x2 _).set0 _).set1 _) Tryd.underlying27 rfl (by kernel_rfl)) rfl ?_
    exact ⟨rfl, (((hbel1.trans (hb2.mono hbel1.size)).alloc (Nat.le_trans hbel1.size hb2.size) _).setCell (p := ⟨w.heap.size, 0, none⟩) (Nat.le_refl _) _).setCell (p := ⟨w.heap.size, 1, none⟩) (Nat.le_refl _) _⟩
  ·rw [hc] at h
   have hat' : Calls Tryd.prog 49 #[.string (tx m)] w1 fun e w' => (∃ nv te pe, e = .returned (.tuple #[.int .i64 nv, .iface te pe])) ∧ Below w1.heap.size w1 w' := hato.mono fun e w' ⟨n', ev, he, hb, hc'⟩ => by
    rcases hc' with ⟨h1, _⟩ | ⟨_, te, pe, h2⟩
    ·rw [hc] at h1
     cases h1
    ·exact ⟨⟨n', te, pe, by rw [he, h2]⟩, hb⟩
   clear hato
   dsimp only at h
   cases ok
   ·cases h
    go_wp2_with (go_at_call 49; refine hat'.mono ?_; rintro e w2 ⟨⟨nv, te, pe, rfl⟩, hb2⟩; have x2 : ∀ o, Two (w2.alloc o) w.heap.size 27 (.int .i64 0) (.int .i64 0) := (fun o => (Below.heap_alloc _ _ _ (Nat.lt_of_lt_of_le hs1 hb2.size)).trans ((hb2.block _ hs1).trans e1)); have c0 := fun o => (x2 o).c0; have d0 := fun o => (x2 o).d0; have c1 := fun o x => ((x2 o).set0 x).c1; have d1 := fun o x => ((x2 o).set0 x).d1)
    refine bodyPost_ret (results_ct rfl _ _ w.heap.size 27 #[.int .i64 0, .int .i64 0] (0, 0) _ rfl (((x2 _).set0 _).set1 _) Tryd.underlying27 rfl (by kernel_rfl)) rfl ?_
    exact ⟨rfl, (((hbel1.trans (hb2.mono hbel1.size)).alloc (Nat.le_trans hbel1.size hb2.size) _).setCell (p := ⟨w.heap.size, 0, none⟩) (Nat.le_refl _) _).setCell (p := ⟨w.heap.size, 1, none⟩) (Nat.le_refl _) _⟩
   ·cases h
    go_wp2_with (go_at_call 49; refine hat'.mono ?_; rintro e w2 ⟨⟨nv, te, pe, rfl⟩, hb2⟩; have x2 : ∀ o, Two (w2.alloc o) w.heap.size 27 (.int .i64 0) (.int .i64 0) := (fun o => (Below.heap_alloc _ _ _ (Nat.lt_of_lt_of_le hs1 hb2.size)).trans ((hb2.block _ hs1).trans e1)); have c0 := fun o => (x2 o).c0; have d0 := fun o => (x2 o).d0; have c1 := fun o x => ((x2 o).set0 x).c1; have d1 := fun o x => ((x2 o).set0 x).d1)
    refine bodyPost_ret (results_ct rfl _ _ w.heap.size 27 #[.int .i64 0, .int .i64 0] (0, 0) _ rfl (((x2 _).set0 _).set1 _) Tryd.underlying27 rfl (by kernel_rfl)) rfl ?_
    exact ⟨rfl, (((hbel1.trans (hb2.mono hbel1.size)).alloc (Nat.le_trans hbel1.size hb2.size) _).setCell (p := ⟨w.heap.size, 0, none⟩) (Nat.le_refl _) _).setCell (p := ⟨w.heap.size, 1, none⟩) (Nat.le_refl _) _⟩
 ·rw [if_neg hsz] at h
  cases h
end Go.Proofs.YtgbdnbbfgcogjaaDoor.Sq

namespace Go.Proofs.YtgbdnbbfgcogjaaDoor.Q
open Go.RowKit Go.Proofs.YtgbdnbbfgcogjaaDoorW.PrintWords Go.Proofs.YtgbdnbbfgcogjaaDoorW.PrintLast Go.Proofs.YtgbdnbbfgcogjaaDoorW.PrintMore
attribute [local go_sem] max2_int min2_int max_two min_two max_three min_three max_four min_four
set_option linter.unusedVariables false
set_option linter.unusedSimpArgs false
/-- What BlockGet answers. -/
def impl_BlockGet.f (k : Nat) (a0 : ByteArray) : Option (Int × Int × Bool) := Sq.blockGetF k a0
theorem impl_BlockGet.calls (k : Nat) (a0 : ByteArray) (r1 : Int) (r2 : Int) (r3 : Bool) (w : World) (hT : Tb.T2 w) (h : impl_BlockGet.f k a0 = some (r1, r2, r3)) :
  Calls Tryd.prog 23 #[.string a0] w fun e w' => e = .returned (.tuple #[.agg #[.int .i64 r1, .int .i64 r2], .bool r3]) ∧ Below w.heap.size w w' :=
 Sq.blockGet_calls k a0 r1 r2 r3 w hT h
end Go.Proofs.YtgbdnbbfgcogjaaDoor.Q

namespace Go.Proofs.YtgbdnbbfgcogjaaDoor.Q
open Go.RowKit Go.Proofs.YtgbdnbbfgcogjaaDoorW.PrintWords Go.Proofs.YtgbdnbbfgcogjaaDoorW.PrintLast Go.Proofs.YtgbdnbbfgcogjaaDoorW.PrintMore
attribute [local go_sem] max2_int min2_int max_two min_two max_three min_three max_four min_four
set_option linter.unusedVariables false
set_option linter.unusedSimpArgs false
def laws_FnExactBlockGet.f (k : Nat) (a0 : ByteArray) : Option (Bool) := if (a0.size : Int) > 1048576 then (some true) else ((spec_BlockGet.f k a0).bind fun bt101 => ((impl_BlockGet.f k a0).bind fun bt105 => ((laws_eqBlock.f bt105.1 bt105.2.1 bt101.1 bt101.2.1).bind fun t109 => (if t109 = true then (if (bt105.2.2 != bt101.2.2) = true then (some false) else (some true)) else (some false)))))
set_option maxHeartbeats 8000000 in
set_option maxRecDepth 100000 in
theorem laws_FnExactBlockGet.calls (k : Nat) (a0 : ByteArray) (r : Bool) (w : World) (hT : Tb.T2 w) (h : laws_FnExactBlockGet.f k a0 = some r) :
  Calls Tryd.prog 7 #[.string a0] w fun e w' => e = .returned (.bool r) ∧ Below w.heap.size w w' := by
 have hu27 := Tryd.underlying27
 have HT := Aside0.mk hT
 clear hT
 have HB := Aside0.mk (Below.refl w.heap.size w)
 have H : (if (a0.size : Int) > 1048576 then (some true) else ((spec_BlockGet.f k a0).bind fun bt101 => ((impl_BlockGet.f k a0).bind fun bt105 => ((laws_eqBlock.f bt105.1 bt105.2.1 bt101.1 bt101.2.1).bind fun t109 => (if t109 = true then (if (bt105.2.2 != bt101.2.2) = true then (some false) else (some true)) else (some false)))))) = some r := h
 clear h
 by_cases c2 : (a0.size : Int) > 1048576
 ·rw [if_pos c2] at H
  have c2b0 : decide (1048576 < (a0.size : Int)) = true := decide_eq_true c2
  have c2b1 : decide (1048576 < a0.size) = true := decide_eq_true (by omega)
  clear c2
  obtain rfl := Option.some.inj H
  go_enter Tryd.func7, Tryd.ntmps7
  go_wp2
  go_ret
  exact ⟨by first | rfl | (simp [errW_none, errW_some] <;> rfl) | (simp [*, errW_none, errW_some] <;> rfl), by repeat (first | (with_reducible first | exact HB.out | apply below_alloc | apply pw_below_drewN | apply below_drew1) | exact HB.out)⟩
 ·rw [if_neg c2] at H
  have c2b0 : decide (1048576 < (a0.size : Int)) = false := decide_eq_false c2
  have c2b1 : decide (1048576 < a0.size) = false := decide_eq_false (by omega)
  clear c2
  replace H := Option.bind_eq_some_iff.mp H
  obtain ⟨⟨t101, t102, t103⟩, A30, H⟩ := H
  replace H : ((impl_BlockGet.f k a0).bind fun bt105 => ((laws_eqBlock.f bt105.1 bt105.2.1 t101 t102).bind fun t109 => (if t109 = true then (if (bt105.2.2 != t103) = true then (some false) else (some true)) else (some false)))) = some r := H
  have A3 := Aside0.mk A30
  clear A30
  replace H := Option.bind_eq_some_iff.mp H
  obtain ⟨⟨t105, t106, t107⟩, A40, H⟩ := H
  replace H : ((laws_eqBlock.f t105 t106 t101 t102).bind fun t109 => (if t109 = true then (if (t107 != t103) = true then (some false) else (some true)) else (some false))) = some r := H
  have A4 := Aside0.mk A40
  clear A40
  replace H := Option.bind_eq_some_iff.mp H
  obtain ⟨t109, A50, H⟩ := H
  replace H : (if t109 = true then (if (t107 != t103) = true then (some false) else (some true)) else (some false)) = some r := H
  have A5 := Aside0.mk A50
  clear A50
  by_cases c6 : t109 = true
  ·subst c6
   have H1 : (if (t107 != t103) = true then (some false) else (some true)) = some r := by rw [if_pos rfl] at H; exact H
   clear H
   have H := H1
   clear H1
   by_cases c7 : (t107 != t103) = true
   ·rw [if_pos c7] at H
    have c7b0 : (t107 != t103) = true := c7
    (try (have c7b1 : decide (t107 = t103) = false := by simpa using c7))
    (try (have c7b2 : (t107 == t103) = false := by simpa using c7))
    (try (have c7b3 : ¬ (t107 = t103) := by simpa using c7))
    clear c7
    obtain rfl := Option.some.inj H
    go_enter Tryd.func7, Tryd.ntmps7
    go_wp2_with (first | ((with_reducible refine gate_callee (f := 22) rfl ?_); refine goesL_ (some 12) rfl rfl Tryd.func22 (by kernel_rfl) rfl #[.string a0] rfl (by (try simp only [List.map_toArray, List.map_cons, List.map_nil]); first | done | rfl | (simp only [List.length_drop, List.length_take]; rfl)) ?_; (with_reducible refine (spec_BlockGet.calls k a0 t101 t102 t103 _ A3.out).mono ?_); rintro e w8 ⟨rfl, hb⟩; refine ⟨_, rfl, ?_⟩; have n0_ := Aside0.mk (below_step (by repeat (first | (with_reducible first | exact HB.out | apply below_alloc | apply pw_below_drewN | apply below_drew1) | exact HB.out)) hb); clear HB; have HB := n0_; clear n0_; (try clear hb); (try clear hb2); (try clear hk); (try clear hi)) | ((with_reducible refine gate_dst (N := 3) rfl ?_); refine box_event ?hg (N := 3) ?hd (cs := #[.int .i64 0, .int .i64 0]) (t := 27) ?hr ?_; (case hd => rfl); (case hg => rfl); (case hr => first | (go_simp; done) | (go_simp; rfl)); intro gb104 hg w9 hbox hb; have n0_ := Aside0.mk (below_step (by repeat (first | (with_reducible first | exact HB.out | apply below_alloc | apply pw_below_drewN | apply below_drew1) | exact HB.out)) hb); have n1_ := Aside0.mk (hbox); have n2_ := Aside0.mk ((by rw [hg]; exact (below_size (by repeat (first | (with_reducible first | exact HB.out | apply below_alloc | apply pw_below_drewN | apply below_drew1) | exact HB.out))) : w.heap.size ≤ gb104)); have n3_ := Aside0.mk ((by rw [hg]; exact (below_size (by repeat (first | (with_reducible first | exact HB.out | apply below_alloc | apply pw_below_drewN | apply below_drew1) | exact HB.out))) : w.heap.size ≤ gb104)); clear HB; have HB := n0_; have BK104 := n1_; have GW104 := n2_; have GE104 := n3_; clear n0_ n1_ n2_ n3_; clear hb hbox hg; have hcz10_0 : w9.cell? ⟨gb104, 0, none⟩ = some (.int .i64 0) := (blk_cell BK104.out 0).trans rfl; have hcz10_1 : w9.cell? ⟨gb104, 1, none⟩ = some (.int .i64 0) := (blk_cell BK104.out 1).trans rfl; have hfz10_0 := blk_frozen BK104.out 0; have hfz10_1 := blk_frozen BK104.out 1) | ((with_reducible refine gate_callee (f := 23) rfl ?_); refine goesL_ (some 17) rfl rfl Tryd.func23 (by kernel_rfl) rfl #[.string a0] rfl (by (try simp only [List.map_toArray, List.map_cons, List.map_nil]); first | done | rfl | (simp only [List.length_drop, List.length_take]; rfl)) ?_; (with_reducible refine (impl_BlockGet.calls k a0 t105 t106 t107 _ ?side1 A4.out).mono ?_); (case side1 => exact (Tb.T2.below HT.out (by repeat (first | (with_reducible first | exact HB.out | apply below_alloc | apply pw_below_drewN | apply below_drew1 | refine below_set ?_ GE104.out) | exact HB.out)))); rintro e w11 ⟨rfl, hb⟩; refine ⟨_, rfl, ?_⟩; have n0_ := Aside0.mk (blk_below (g := gb104) (o := .cells #[.int .i64 t101, .int .i64 t102] 27 (0, 0)) (by (with_reducible repeat (first | refine blk_drewN ?_ _ | refine blk_drew ?_ | refine blk_alloc ?_ _)); refine blk_put (cs := #[.int .i64 t101, .int .i64 0]) ?_ 1 _ rfl; (with_reducible repeat (first | refine blk_drewN ?_ _ | refine blk_drew ?_ | refine blk_alloc ?_ _)); refine blk_put (cs := #[.int .i64 0, .int .i64 0]) ?_ 0 _ rfl; (with_reducible repeat (first | refine blk_drewN ?_ _ | refine blk_drew ?_ | refine blk_alloc ?_ _)); exact BK104.out) hb); have n1_ := Aside0.mk (below_step (by repeat (first | (with_reducible first | exact HB.out | apply below_alloc | apply pw_below_drewN | apply below_drew1 | refine below_set ?_ GE104.out) | exact HB.out)) hb); clear BK104; clear HB; have BK104 := n0_; have HB := n1_; clear n0_ n1_; (try clear hb); (try clear hb2); (try clear hk); (try clear hi)) | ((with_reducible refine gate_dst (N := 5) rfl ?_); refine box_event ?hg (N := 5) ?hd (cs := #[.int .i64 0, .int .i64 0]) (t := 27) ?hr ?_; (case hd => rfl); (case hg => rfl); (case hr => first | (go_simp; done) | (go_simp; rfl)); intro gb108 hg w12 hbox hb; have n0_ := Aside0.mk (blk_below (g := gb104) (o := .cells #[.int .i64 t101, .int .i64 t102] 27 (0, 0)) (by (with_reducible repeat (first | refine blk_drewN ?_ _ | refine blk_drew ?_ | refine blk_alloc ?_ _)); exact BK104.out) hb); have n1_ := Aside0.mk (below_step (by repeat (first | (with_reducible first | exact HB.out | apply below_alloc | apply pw_below_drewN | apply below_drew1 | refine below_set ?_ GE104.out) | exact HB.out)) hb); have n2_ := Aside0.mk (hbox); have n3_ := Aside0.mk ((by rw [hg]; exact (below_size (by repeat (first | (with_reducible first | exact HB.out | apply below_alloc | apply pw_below_drewN | apply below_drew1 | refine below_set ?_ GE104.out) | exact HB.out))) : w.heap.size ≤ gb108)); have n4_ := Aside0.mk ((by rw [hg]; exact (below_size (by repeat (first | (with_reducible first | exact HB.out | apply below_alloc | apply pw_below_drewN | apply below_drew1 | refine below_set ?_ GE104.out) | exact HB.out))) : w.heap.size ≤ gb108)); have n5_ := Aside0.mk ((by rw [hg]; exact Nat.ne_of_lt (blk_lt (g := gb104) (o := .cells #[.int .i64 t101, .int .i64 t102] 27 (0, 0)) (by (with_reducible repeat (first | refine blk_drewN ?_ _ | refine blk_drew ?_ | refine blk_alloc ?_ _)); exact BK104.out)) : gb104 ≠ gb108)); have n6_ := Aside0.mk ((by rw [hg]; exact Nat.ne_of_gt (blk_lt (g := gb104) (o := .cells #[.int .i64 t101, .int .i64 t102] 27 (0, 0)) (by (with_reducible repeat (first | refine blk_drewN ?_ _ | refine blk_drew ?_ | refine blk_alloc ?_ _)); exact BK104.out)) : gb108 ≠ gb104)); clear BK104; clear HB; have BK104 := n0_; have HB := n1_; have BK108 := n2_; have GW108 := n3_; have GE108 := n4_; have NB104_108 := n5_; have NB108_104 := n6_; clear n0_ n1_ n2_ n3_ n4_ n5_ n6_; clear hb hbox hg; have hnb13 := NB108_104.out; have hnc13 := NB104_108.out; have hcz14_0 : w12.cell? ⟨gb108, 0, none⟩ = some (.int .i64 0) := (blk_cell BK108.out 0).trans rfl; have hcz14_1 : w12.cell? ⟨gb108, 1, none⟩ = some (.int .i64 0) := (blk_cell BK108.out 1).trans rfl; have hfz14_0 := blk_frozen BK108.out 0; have hfz14_1 := blk_frozen BK108.out 1; have hcz15_0 : w12.cell? ⟨gb104, 0, none⟩ = some (.int .i64 t101) := (blk_cell BK104.out 0).trans rfl; have hcz15_1 : w12.cell? ⟨gb104, 1, none⟩ = some (.int .i64 t102) := (blk_cell BK104.out 1).trans rfl; have hfz15_0 := blk_frozen BK104.out 0; have hfz15_1 := blk_frozen BK104.out 1) | ((with_reducible refine gate_callee (f := 24) rfl ?_); refine goesL_ (some 22) rfl rfl Tryd.func24 (by kernel_rfl) rfl #[.agg #[.int .i64 t105, .int .i64 t106], .agg #[.int .i64 t101, .int .i64 t102]] rfl (by (try simp only [List.map_toArray, List.map_cons, List.map_nil]); first | done | rfl | (simp only [List.length_drop, List.length_take]; rfl)) ?_; (with_reducible refine (laws_eqBlock.calls t105 t106 t101 t102 true _ A5.out).mono ?_); rintro e w16 ⟨rfl, hb⟩; refine ⟨_, rfl, ?_⟩; have n0_ := Aside0.mk (blk_below (g := gb104) (o := .cells #[.int .i64 t101, .int .i64 t102] 27 (0, 0)) (by (with_reducible repeat (first | refine blk_drewN ?_ _ | refine blk_drew ?_ | refine blk_alloc ?_ _)); refine blk_far ?_ NB104_108.out _; (with_reducible repeat (first | refine blk_drewN ?_ _ | refine blk_drew ?_ | refine blk_alloc ?_ _)); refine blk_far ?_ NB104_108.out _; (with_reducible repeat (first | refine blk_drewN ?_ _ | refine blk_drew ?_ | refine blk_alloc ?_ _)); exact BK104.out) hb); have n1_ := Aside0.mk (blk_below (g := gb108) (o := .cells #[.int .i64 t105, .int .i64 t106] 27 (0, 0)) (by (with_reducible repeat (first | refine blk_drewN ?_ _ | refine blk_drew ?_ | refine blk_alloc ?_ _)); refine blk_put (cs := #[.int .i64 t105, .int .i64 0]) ?_ 1 _ rfl; (with_reducible repeat (first | refine blk_drewN ?_ _ | refine blk_drew ?_ | refine blk_alloc ?_ _)); refine blk_put (cs := #[.int .i64 0, .int .i64 0]) ?_ 0 _ rfl; (with_reducible repeat (first | refine blk_drewN ?_ _ | refine blk_drew ?_ | refine blk_alloc ?_ _)); exact BK108.out) hb); have n2_ := Aside0.mk (below_step (by repeat (first | (with_reducible first | exact HB.out | apply below_alloc | apply pw_below_drewN | apply below_drew1 | refine below_set ?_ GE104.out | refine below_set ?_ GE108.out) | exact HB.out)) hb); clear BK104; clear BK108; clear HB; have BK104 := n0_; have BK108 := n1_; have HB := n2_; clear n0_ n1_ n2_; (try clear hb); (try clear hb2); (try clear hk); (try clear hi)))
    go_ret
    exact ⟨by first | rfl | (simp [errW_none, errW_some] <;> rfl) | (simp [*, errW_none, errW_some] <;> rfl), by repeat (first | (with_reducible first | exact HB.out | apply below_alloc | apply pw_below_drewN | apply below_drew1 | refine below_set ?_ GE104.out | refine below_set ?_ GE108.out) | exact HB.out)⟩
   ·rw [if_neg c7] at H
    have c7b0 : (t107 != t103) = false := by simpa using c7
    (try (have c7b1 : decide (t107 = t103) = true := by simpa using c7))
    (try (have c7b2 : (t107 == t103) = true := by simpa using c7))
    clear c7
    obtain rfl := Option.some.inj H
    go_enter Tryd.func7, Tryd.ntmps7
    go_wp2_with (first | ((with_reducible refine gate_callee (f := 22) rfl ?_); refine goesL_ (some 12) rfl rfl Tryd.func22 (by kernel_rfl) rfl #[.string a0] rfl (by (try simp only [List.map_toArray, List.map_cons, List.map_nil]); first | done | rfl | (simp only [List.length_drop, List.length_take]; rfl)) ?_; (with_reducible refine (spec_BlockGet.calls k a0 t101 t102 t103 _ A3.out).mono ?_); rintro e w17 ⟨rfl, hb⟩; refine ⟨_, rfl, ?_⟩; have n0_ := Aside0.mk (below_step (by repeat (first | (with_reducible first | exact HB.out | apply below_alloc | apply pw_below_drewN | apply below_drew1) | exact HB.out)) hb); clear HB; have HB := n0_; clear n0_; (try clear hb); (try clear hb2); (try clear hk); (try clear hi)) | ((with_reducible refine gate_dst (N := 3) rfl ?_); refine box_event ?hg (N := 3) ?hd (cs := #[.int .i64 0, .int .i64 0]) (t := 27) ?hr ?_; (case hd => rfl); (case hg => rfl); (case hr => first | (go_simp; done) | (go_simp; rfl)); intro gb104 hg w18 hbox hb; have n0_ := Aside0.mk (below_step (by repeat (first | (with_reducible first | exact HB.out | apply below_alloc | apply pw_below_drewN | apply below_drew1) | exact HB.out)) hb); have n1_ := Aside0.mk (hbox); have n2_ := Aside0.mk ((by rw [hg]; exact (below_size (by repeat (first | (with_reducible first | exact HB.out | apply below_alloc | apply pw_below_drewN | apply below_drew1) | exact HB.out))) : w.heap.size ≤ gb104)); have n3_ := Aside0.mk ((by rw [hg]; exact (below_size (by repeat (first | (with_reducible first | exact HB.out | apply below_alloc | apply pw_below_drewN | apply below_drew1) | exact HB.out))) : w.heap.size ≤ gb104)); clear HB; have HB := n0_; have BK104 := n1_; have GW104 := n2_; have GE104 := n3_; clear n0_ n1_ n2_ n3_; clear hb hbox hg; have hcz19_0 : w18.cell? ⟨gb104, 0, none⟩ = some (.int .i64 0) := (blk_cell BK104.out 0).trans rfl; have hcz19_1 : w18.cell? ⟨gb104, 1, none⟩ = some (.int .i64 0) := (blk_cell BK104.out 1).trans rfl; have hfz19_0 := blk_frozen BK104.out 0; have hfz19_1 := blk_frozen BK104.out 1) | ((with_reducible refine gate_callee (f := 23) rfl ?_); refine goesL_ (some 17) rfl rfl Tryd.func23 (by kernel_rfl) rfl #[.string a0] rfl (by (try simp only [List.map_toArray, List.map_cons, List.map_nil]); first | done | rfl | (simp only [List.length_drop, List.length_take]; rfl)) ?_; (with_reducible refine (impl_BlockGet.calls k a0 t105 t106 t107 _ ?side1 A4.out).mono ?_); (case side1 => exact (Tb.T2.below HT.out (by repeat (first | (with_reducible first | exact HB.out | apply below_alloc | apply pw_below_drewN | apply below_drew1 | refine below_set ?_ GE104.out) | exact HB.out)))); rintro e w20 ⟨rfl, hb⟩; refine ⟨_, rfl, ?_⟩; have n0_ := Aside0.mk (blk_below (g := gb104) (o := .cells #[.int .i64 t101, .int .i64 t102] 27 (0, 0)) (by (with_reducible repeat (first | refine blk_drewN ?_ _ | refine blk_drew ?_ | refine blk_alloc ?_ _)); refine blk_put (cs := #[.int .i64 t101, .int .i64 0]) ?_ 1 _ rfl; (with_reducible repeat (first | refine blk_drewN ?_ _ | refine blk_drew ?_ | refine blk_alloc ?_ _)); refine blk_put (cs := #[.int .i64 0, .int .i64 0]) ?_ 0 _ rfl; (with_reducible repeat (first | refine blk_drewN ?_ _ | refine blk_drew ?_ | refine blk_alloc ?_ _)); exact BK104.out) hb); have n1_ := Aside0.mk (below_step (by repeat (first | (with_reducible first | exact HB.out | apply below_alloc | apply pw_below_drewN | apply below_drew1 | refine below_set ?_ GE104.out) | exact HB.out)) hb); clear BK104; clear HB; have BK104 := n0_; have HB := n1_; clear n0_ n1_; (try clear hb); (try clear hb2); (try clear hk); (try clear hi)) | ((with_reducible refine gate_dst (N := 5) rfl ?_); refine box_event ?hg (N := 5) ?hd (cs := #[.int .i64 0, .int .i64 0]) (t := 27) ?hr ?_; (case hd => rfl); (case hg => rfl); (case hr => first | (go_simp; done) | (go_simp; rfl)); intro gb108 hg w21 hbox hb; have n0_ := Aside0.mk (blk_below (g := gb104) (o := .cells #[.int .i64 t101, .int .i64 t102] 27 (0, 0)) (by (with_reducible repeat (first | refine blk_drewN ?_ _ | refine blk_drew ?_ | refine blk_alloc ?_ _)); exact BK104.out) hb); have n1_ := Aside0.mk (below_step (by repeat (first | (with_reducible first | exact HB.out | apply below_alloc | apply pw_below_drewN | apply below_drew1 | refine below_set ?_ GE104.out) | exact HB.out)) hb); have n2_ := Aside0.mk (hbox); have n3_ := Aside0.mk ((by rw [hg]; exact (below_size (by repeat (first | (with_reducible first | exact HB.out | apply below_alloc | apply pw_below_drewN | apply below_drew1 | refine below_set ?_ GE104.out) | exact HB.out))) : w.heap.size ≤ gb108)); have n4_ := Aside0.mk ((by rw [hg]; exact (below_size (by repeat (first | (with_reducible first | exact HB.out | apply below_alloc | apply pw_below_drewN | apply below_drew1 | refine below_set ?_ GE104.out) | exact HB.out))) : w.heap.size ≤ gb108)); have n5_ := Aside0.mk ((by rw [hg]; exact Nat.ne_of_lt (blk_lt (g := gb104) (o := .cells #[.int .i64 t101, .int .i64 t102] 27 (0, 0)) (by (with_reducible repeat (first | refine blk_drewN ?_ _ | refine blk_drew ?_ | refine blk_alloc ?_ _)); exact BK104.out)) : gb104 ≠ gb108)); have n6_ := Aside0.mk ((by rw [hg]; exact Nat.ne_of_gt (blk_lt (g := gb104) (o := .cells #[.int .i64 t101, .int .i64 t102] 27 (0, 0)) (by (with_reducible repeat (first | refine blk_drewN ?_ _ | refine blk_drew ?_ | refine blk_alloc ?_ _)); exact BK104.out)) : gb108 ≠ gb104)); clear BK104; clear HB; have BK104 := n0_; have HB := n1_; have BK108 := n2_; have GW108 := n3_; have GE108 := n4_; have NB104_108 := n5_; have NB108_104 := n6_; clear n0_ n1_ n2_ n3_ n4_ n5_ n6_; clear hb hbox hg; have hnb22 := NB108_104.out; have hnc22 := NB104_108.out; have hcz23_0 : w21.cell? ⟨gb108, 0, none⟩ = some (.int .i64 0) := (blk_cell BK108.out 0).trans rfl; have hcz23_1 : w21.cell? ⟨gb108, 1, none⟩ = some (.int .i64 0) := (blk_cell BK108.out 1).trans rfl; have hfz23_0 := blk_frozen BK108.out 0; have hfz23_1 := blk_frozen BK108.out 1; have hcz24_0 : w21.cell? ⟨gb104, 0, none⟩ = some (.int .i64 t101) := (blk_cell BK104.out 0).trans rfl; have hcz24_1 : w21.cell? ⟨gb104, 1, none⟩ = some (.int .i64 t102) := (blk_cell BK104.out 1).trans rfl; have hfz24_0 := blk_frozen BK104.out 0; have hfz24_1 := blk_frozen BK104.out 1) | ((with_reducible refine gate_callee (f := 24) rfl ?_); refine goesL_ (some 22) rfl rfl Tryd.func24 (by kernel_rfl) rfl #[.agg #[.int .i64 t105, .int .i64 t106], .agg #[.int .i64 t101, .int .i64 t102]] rfl (by (try simp only [List.map_toArray, List.map_cons, List.map_nil]); first | done | rfl | (simp only [List.length_drop, List.length_take]; rfl)) ?_; (with_reducible refine (laws_eqBlock.calls t105 t106 t101 t102 true _ A5.out).mono ?_); rintro e w25 ⟨rfl, hb⟩; refine ⟨_, rfl, ?_⟩; have n0_ := Aside0.mk (blk_below (g := gb104) (o := .cells #[.int .i64 t101, .int .i64 t102] 27 (0, 0)) (by (with_reducible repeat (first | refine blk_drewN ?_ _ | refine blk_drew ?_ | refine blk_alloc ?_ _)); refine blk_far ?_ NB104_108.out _; (with_reducible repeat (first | refine blk_drewN ?_ _ | refine blk_drew ?_ | refine blk_alloc ?_ _)); refine blk_far ?_ NB104_108.out _; (with_reducible repeat (first | refine blk_drewN ?_ _ | refine blk_drew ?_ | refine blk_alloc ?_ _)); exact BK104.out) hb); have n1_ := Aside0.mk (blk_below (g := gb108) (o := .cells #[.int .i64 t105, .int .i64 t106] 27 (0, 0)) (by (with_reducible repeat (first | refine blk_drewN ?_ _ | refine blk_drew ?_ | refine blk_alloc ?_ _)); refine blk_put (cs := #[.int .i64 t105, .int .i64 0]) ?_ 1 _ rfl; (with_reducible repeat (first | refine blk_drewN ?_ _ | refine blk_drew ?_ | refine blk_alloc ?_ _)); refine blk_put (cs := #[.int .i64 0, .int .i64 0]) ?_ 0 _ rfl; (with_reducible repeat (first | refine blk_drewN ?_ _ | refine blk_drew ?_ | refine blk_alloc ?_ _)); exact BK108.out) hb); have n2_ := Aside0.mk (below_step (by repeat (first | (with_reducible first | exact HB.out | apply below_alloc | apply pw_below_drewN | apply below_drew1 | refine below_set ?_ GE104.out | refine below_set ?_ GE108.out) | exact HB.out)) hb); clear BK104; clear BK108; clear HB; have BK104 := n0_; have BK108 := n1_; have HB := n2_; clear n0_ n1_ n2_; (try clear hb); (try clear hb2); (try clear hk); (try clear hi)))
    go_ret
    exact ⟨by first | rfl | (simp [errW_none, errW_some] <;> rfl) | (simp [*, errW_none, errW_some] <;> rfl), by repeat (first | (with_reducible first | exact HB.out | apply below_alloc | apply pw_below_drewN | apply below_drew1 | refine below_set ?_ GE104.out | refine below_set ?_ GE108.out) | exact HB.out)⟩
  ·replace c6 := Bool.eq_false_iff.mpr c6
   subst c6
   have H1 : (some false) = some r := by rw [if_neg (show ¬ (false = true) by decide)] at H; exact H
   clear H
   have H := H1
   clear H1
   obtain rfl := Option.some.inj H
   go_enter Tryd.func7, Tryd.ntmps7
   go_wp2_with (first | ((with_reducible refine gate_callee (f := 22) rfl ?_); refine goesL_ (some 12) rfl rfl Tryd.func22 (by kernel_rfl) rfl #[.string a0] rfl (by (try simp only [List.map_toArray, List.map_cons, List.map_nil]); first | done | rfl | (simp only [List.length_drop, List.length_take]; rfl)) ?_; (with_reducible refine (spec_BlockGet.calls k a0 t101 t102 t103 _ A3.out).mono ?_); rintro e w26 ⟨rfl, hb⟩; refine ⟨_, rfl, ?_⟩; have n0_ := Aside0.mk (below_step (by repeat (first | (with_reducible first | exact HB.out | apply below_alloc | apply pw_below_drewN | apply below_drew1) | exact HB.out)) hb); clear HB; have HB := n0_; clear n0_; (try clear hb); (try clear hb2); (try clear hk); (try clear hi)) | ((with_reducible refine gate_dst (N := 3) rfl ?_); refine box_event ?hg (N := 3) ?hd (cs := #[.int .i64 0, .int .i64 0]) (t := 27) ?hr ?_; (case hd => rfl); (case hg => rfl); (case hr => first | (go_simp; done) | (go_simp; rfl)); intro gb104 hg w27 hbox hb; have n0_ := Aside0.mk (below_step (by repeat (first | (with_reducible first | exact HB.out | apply below_alloc | apply pw_below_drewN | apply below_drew1) | exact HB.out)) hb); have n1_ := Aside0.mk (hbox); have n2_ := Aside0.mk ((by rw [hg]; exact (below_size (by repeat (first | (with_reducible first | exact HB.out | apply below_alloc | apply pw_below_drewN | apply below_drew1) | exact HB.out))) : w.heap.size ≤ gb104)); have n3_ := Aside0.mk ((by rw [hg]; exact (below_size (by repeat (first | (with_reducible first | exact HB.out | apply below_alloc | apply pw_below_drewN | apply below_drew1) | exact HB.out))) : w.heap.size ≤ gb104)); clear HB; have HB := n0_; have BK104 := n1_; have GW104 := n2_; have GE104 := n3_; clear n0_ n1_ n2_ n3_; clear hb hbox hg; have hcz28_0 : w27.cell? ⟨gb104, 0, none⟩ = some (.int .i64 0) := (blk_cell BK104.out 0).trans rfl; have hcz28_1 : w27.cell? ⟨gb104, 1, none⟩ = some (.int .i64 0) := (blk_cell BK104.out 1).trans rfl; have hfz28_0 := blk_frozen BK104.out 0; have hfz28_1 := blk_frozen BK104.out 1) | ((with_reducible refine gate_callee (f := 23) rfl ?_); refine goesL_ (some 17) rfl rfl Tryd.func23 (by kernel_rfl) rfl #[.string a0] rfl (by (try simp only [List.map_toArray, List.map_cons, List.map_nil]); first | done | rfl | (simp only [List.length_drop, List.length_take]; rfl)) ?_; (with_reducible refine (impl_BlockGet.calls k a0 t105 t106 t107 _ ?side1 A4.out).mono ?_); (case side1 => exact (Tb.T2.below HT.out (by repeat (first | (with_reducible first | exact HB.out | apply below_alloc | apply pw_below_drewN | apply below_drew1 | refine below_set ?_ GE104.out) | exact HB.out)))); rintro e w29 ⟨rfl, hb⟩; refine ⟨_, rfl, ?_⟩; have n0_ := Aside0.mk (blk_below (g := gb104) (o := .cells #[.int .i64 t101, .int .i64 t102] 27 (0, 0)) (by (with_reducible repeat (first | refine blk_drewN ?_ _ | refine blk_drew ?_ | refine blk_alloc ?_ _)); refine blk_put (cs := #[.int .i64 t101, .int .i64 0]) ?_ 1 _ rfl; (with_reducible repeat (first | refine blk_drewN ?_ _ | refine blk_drew ?_ | refine blk_alloc ?_ _)); refine blk_put (cs := #[.int .i64 0, .int .i64 0]) ?_ 0 _ rfl; (with_reducible repeat (first | refine blk_drewN ?_ _ | refine blk_drew ?_ | refine blk_alloc ?_ _)); exact BK104.out) hb); have n1_ := Aside0.mk (below_step (by repeat (first | (with_reducible first | exact HB.out | apply below_alloc | apply pw_below_drewN | apply below_drew1 | refine below_set ?_ GE104.out) | exact HB.out)) hb); clear BK104; clear HB; have BK104 := n0_; have HB := n1_; clear n0_ n1_; (try clear hb); (try clear hb2); (try clear hk); (try clear hi)) | ((with_reducible refine gate_dst (N := 5) rfl ?_); refine box_event ?hg (N := 5) ?hd (cs := #[.int .i64 0, .int .i64 0]) (t := 27) ?hr ?_; (case hd => rfl); (case hg => rfl); (case hr => first | (go_simp; done) | (go_simp; rfl)); intro gb108 hg w30 hbox hb; have n0_ := Aside0.mk (blk_below (g := gb104) (o := .cells #[.int .i64 t101, .int .i64 t102] 27 (0, 0)) (by (with_reducible repeat (first | refine blk_drewN ?_ _ | refine blk_drew ?_ | refine blk_alloc ?_ _)); exact BK104.out) hb); have n1_ := Aside0.mk (below_step (by repeat (first | (with_reducible first | exact HB.out | apply below_alloc | apply pw_below_drewN | apply below_drew1 | refine below_set ?_ GE104.out) | exact HB.out)) hb); have n2_ := Aside0.mk (hbox); have n3_ := Aside0.mk ((by rw [hg]; exact (below_size (by repeat (first | (with_reducible first | exact HB.out | apply below_alloc | apply pw_below_drewN | apply below_drew1 | refine below_set ?_ GE104.out) | exact HB.out))) : w.heap.size ≤ gb108)); have n4_ := Aside0.mk ((by rw [hg]; exact (below_size (by repeat (first | (with_reducible first | exact HB.out | apply below_alloc | apply pw_below_drewN | apply below_drew1 | refine below_set ?_ GE104.out) | exact HB.out))) : w.heap.size ≤ gb108)); have n5_ := Aside0.mk ((by rw [hg]; exact Nat.ne_of_lt (blk_lt (g := gb104) (o := .cells #[.int .i64 t101, .int .i64 t102] 27 (0, 0)) (by (with_reducible repeat (first | refine blk_drewN ?_ _ | refine blk_drew ?_ | refine blk_alloc ?_ _)); exact BK104.out)) : gb104 ≠ gb108)); have n6_ := Aside0.mk ((by rw [hg]; exact Nat.ne_of_gt (blk_lt (g := gb104) (o := .cells #[.int .i64 t101, .int .i64 t102] 27 (0, 0)) (by (with_reducible repeat (first | refine blk_drewN ?_ _ | refine blk_drew ?_ | refine blk_alloc ?_ _)); exact BK104.out)) : gb108 ≠ gb104)); clear BK104; clear HB; have BK104 := n0_; have HB := n1_; have BK108 := n2_; have GW108 := n3_; have GE108 := n4_; have NB104_108 := n5_; have NB108_104 := n6_; clear n0_ n1_ n2_ n3_ n4_ n5_ n6_; clear hb hbox hg; have hnb31 := NB108_104.out; have hnc31 := NB104_108.out; have hcz32_0 : w30.cell? ⟨gb108, 0, none⟩ = some (.int .i64 0) := (blk_cell BK108.out 0).trans rfl; have hcz32_1 : w30.cell? ⟨gb108, 1, none⟩ = some (.int .i64 0) := (blk_cell BK108.out 1).trans rfl; have hfz32_0 := blk_frozen BK108.out 0; have hfz32_1 := blk_frozen BK108.out 1; have hcz33_0 : w30.cell? ⟨gb104, 0, none⟩ = some (.int .i64 t101) := (blk_cell BK104.out 0).trans rfl; have hcz33_1 : w30.cell? ⟨gb104, 1, none⟩ = some (.int .i64 t102) := (blk_cell BK104.out 1).trans rfl; have hfz33_0 := blk_frozen BK104.out 0; have hfz33_1 := blk_frozen BK104.out 1) | ((with_reducible refine gate_callee (f := 24) rfl ?_); refine goesL_ (some 22) rfl rfl Tryd.func24 (by kernel_rfl) rfl #[.agg #[.int .i64 t105, .int .i64 t106], .agg #[.int .i64 t101, .int .i64 t102]] rfl (by (try simp only [List.map_toArray, List.map_cons, List.map_nil]); first | done | rfl | (simp only [List.length_drop, List.length_take]; rfl)) ?_; (with_reducible refine (laws_eqBlock.calls t105 t106 t101 t102 false _ A5.out).mono ?_); rintro e w34 ⟨rfl, hb⟩; refine ⟨_, rfl, ?_⟩; have n0_ := Aside0.mk (blk_below (g := gb104) (o := .cells #[.int .i64 t101, .int .i64 t102] 27 (0, 0)) (by (with_reducible repeat (first | refine blk_drewN ?_ _ | refine blk_drew ?_ | refine blk_alloc ?_ _)); refine blk_far ?_ NB104_108.out _; (with_reducible repeat (first | refine blk_drewN ?_ _ | refine blk_drew ?_ | refine blk_alloc ?_ _)); refine blk_far ?_ NB104_108.out _; (with_reducible repeat (first | refine blk_drewN ?_ _ | refine blk_drew ?_ | refine blk_alloc ?_ _)); exact BK104.out) hb); have n1_ := Aside0.mk (blk_below (g := gb108) (o := .cells #[.int .i64 t105, .int .i64 t106] 27 (0, 0)) (by (with_reducible repeat (first | refine blk_drewN ?_ _ | refine blk_drew ?_ | refine blk_alloc ?_ _)); refine blk_put (cs := #[.int .i64 t105, .int .i64 0]) ?_ 1 _ rfl; (with_reducible repeat (first | refine blk_drewN ?_ _ | refine blk_drew ?_ | refine blk_alloc ?_ _)); refine blk_put (cs := #[.int .i64 0, .int .i64 0]) ?_ 0 _ rfl; (with_reducible repeat (first | refine blk_drewN ?_ _ | refine blk_drew ?_ | refine blk_alloc ?_ _)); exact BK108.out) hb); have n2_ := Aside0.mk (below_step (by repeat (first | (with_reducible first | exact HB.out | apply below_alloc | apply pw_below_drewN | apply below_drew1 | refine below_set ?_ GE104.out | refine below_set ?_ GE108.out) | exact HB.out)) hb); clear BK104; clear BK108; clear HB; have BK104 := n0_; have BK108 := n1_; have HB := n2_; clear n0_ n1_ n2_; (try clear hb); (try clear hb2); (try clear hk); (try clear hi)))
   go_ret
   exact ⟨by first | rfl | (simp [errW_none, errW_some] <;> rfl) | (simp [*, errW_none, errW_some] <;> rfl), by repeat (first | (with_reducible first | exact HB.out | apply below_alloc | apply pw_below_drewN | apply below_drew1 | refine below_set ?_ GE104.out | refine below_set ?_ GE108.out) | exact HB.out)⟩
end Go.Proofs.YtgbdnbbfgcogjaaDoor.Q

namespace Go.Proofs.YtgbdnbbfgcogjaaDoor.Open
open Go.RowKit Go.ChangeShapes Go.WideShapes Go.Deep Go.Proofs.YtgbdnbbfgcogjaaDoorW.PrintWords
/-- What the cells of a type say. -/
def Opens (P : Program) (w : World) (t : TypeId) {α : Type} (d : Kd α) (p : α → Prop) : Prop :=
 ∀ (H : Type) (enc : TypeId × Value → H) (base : Nat) (spare : Nat → Bool) (held : Bool) (fuel : Nat) (cs : List Value) (x : DataW H × List MemPlace),
  DataW.trod enc P w base spare held fuel t cs = some x → ∃ a, d.K w a cs ∧ p a
theorem opens_string {P : Program} {w : World} {t : TypeId} (ht : P.underlying t = some .string) : Opens P w t Kd.string (fun s => s.size ≤ 9223372036854775807) := by
 intro H enc base spare held fuel cs x h
 obtain ⟨s, rfl, _, hs⟩ := DataW.trod_string ht h
 exact ⟨s, rfl, hs⟩
theorem open_arg {H : Type} {enc : TypeId × Value → H} {P : Program} {w : World} {base : Nat} {spare : Nat → Bool} {held : Bool} {t : TypeId} {α : Type} {d : Kd α} {p : α → Prop} {v : Value} {dt : DataW H} {ps : List MemPlace} (he : Opens P w t d p)
  (h : DataW.Trod enc P w base spare held t v dt ps) : ∃ a, d.K w a v.cells.toList ∧ p a := by
 obtain ⟨fuel, hf⟩ := h
 exact he _ _ _ _ _ _ _ _ hf
theorem string_of_cells {w : World} {v : Value} {x : ByteArray} (h : ∃ n, v = .string n) (K : Kd.string.K w x v.cells.toList) : v = .string x := by
 obtain ⟨n, rfl⟩ := h
 have K' : (Value.string n).cells.toList = [.string x] := K
 simp only [Value.cells, List.cons.injEq, and_true] at K'
 exact K'
end Go.Proofs.YtgbdnbbfgcogjaaDoor.Open

namespace Go.Proofs.YtgbdnbbfgcogjaaDoor.Q
open Go.RowKit Go.Proofs.YtgbdnbbfgcogjaaDoorW.PrintWords Go.Proofs.YtgbdnbbfgcogjaaDoor.Open
theorem op9 (w : World) : Opens Tryd.prog w 9 Kd.string (fun x => x.size ≤ 9223372036854775807) := opens_string Tryd.underlying9
end Go.Proofs.YtgbdnbbfgcogjaaDoor.Q

namespace Go.Proofs.YtgbdnbbfgcogjaaDoor.Q
open Go.Proofs.YtgbdnbbfgcogjaaDoor.Open
/-- The pure statement of laws_FnExactBlockGet. -/
def laws_FnExactBlockGet.Pure : Prop := ∀ (x0 : ByteArray), (x0.size ≤ 9223372036854775807) → ∃ k, laws_FnExactBlockGet.f k x0 = some true
end Go.Proofs.YtgbdnbbfgcogjaaDoor.Q

namespace Go.Proofs.YtgbdnbbfgcogjaaDoor.Pure
open Go.RowKit
theorem w64 {x : Int} (h : -9223372036854775808 ≤ x) (h' : x ≤ 9223372036854775807) : wrap64 x = x := by
 unfold wrap64
 omega
end Go.Proofs.YtgbdnbbfgcogjaaDoor.Pure

namespace Go.Proofs.YtgbdnbbfgcogjaaDoor.Pure
open Go.RowKit Go.Proofs.YtgbdnbbfgcogjaaDoor.Q Go.Proofs.YtgbdnbbfgcogjaaDoorW.PrintWords Go.Proofs.YtgbdnbbfgcogjaaDoorW.PrintLast Go.Proofs.YtgbdnbbfgcogjaaDoorW.PrintMore
/-- How many addresses a block of b bits has. -/
def sz (b : Int) : Int := 2 ^ (32 - b).toNat
theorem sz_pos (b : Int) : 0 < sz b := Int.pow_pos (by omega)
theorem sz_le {b : Int} (h : 0 ≤ b) : sz b ≤ 4294967296 := by
 have h1 : (32 - b).toNat ≤ 32 := by omega
 have h2 : (2 : Nat) ^ (32 - b).toNat ≤ 2 ^ 32 := Nat.pow_le_pow_right (by omega) h1
 have h3 : ((2 : Nat) ^ (32 - b).toNat : Nat) ≤ 4294967296 := by simpa using h2
 unfold sz
 have h4 : ((2 ^ (32 - b).toNat : Nat) : Int) = (2 : Int) ^ (32 - b).toNat := by norm_cast
 omega
theorem in_spec (a lo hi : Int) : spec_l1In.f a lo hi = some (decide (lo ≤ a ∧ a ≤ hi)) := by
 unfold spec_l1In.f
 by_cases h : a ≥ lo
 ·rw [if_pos h]; simp [show lo ≤ a from h]
 ·rw [if_neg h]; simp [show ¬ lo ≤ a from h]
theorem in_impl (a lo hi : Int) : impl_in.f a lo hi = some (decide (lo ≤ a ∧ a ≤ hi)) := by
 unfold impl_in.f
 by_cases h : a ≥ lo
 ·rw [if_pos h]; simp [show lo ≤ a from h]
 ·rw [if_neg h]; simp [show ¬ lo ≤ a from h]
theorem addr_spec (a : Int) : spec_l1Addr.f a = some (decide (0 ≤ a ∧ a ≤ 4294967295)) := by
 unfold spec_l1Addr.f
 rw [in_spec]
 rfl
theorem addr_impl (a : Int) : impl_isAddr.f a = some (decide (0 ≤ a ∧ a ≤ 4294967295)) := by
 unfold impl_isAddr.f
 rw [in_impl]
 rfl
theorem two_ev : ∀ (m k : Nat) (x : Int), m < k → 0 ≤ x → x * 2 ^ m ≤ 9223372036854775807 → m ≤ 62 → spec_l1Two.l0 k m x = some (x * 2 ^ m) := by
 intro m
 induction m with
 | zero =>
  intro k x hk h0 h1 _
  obtain ⟨k, rfl⟩ : ∃ j, k = j + 1 := ⟨k - 1, by omega⟩
  simp only [spec_l1Two.l0]
  rw [if_neg (by omega)]
  simp
 | succ m ih =>
  intro k x hk h0 h1 hm
  obtain ⟨k, rfl⟩ : ∃ j, k = j + 1 := ⟨k - 1, by omega⟩
  simp only [spec_l1Two.l0]
  rw [if_pos (by omega)]
  have e : x * 2 ^ (m + 1) = x * 2 * 2 ^ m := by rw [Int.pow_succ]; rw [Int.mul_comm (2 ^ m) 2, Int.mul_assoc]
  have p : (1 : Int) ≤ 2 ^ m := Int.pow_pos (by omega)
  have h2 : x * 2 ≤ x * 2 * 2 ^ m := by
   have := Int.mul_le_mul_of_nonneg_left p (show 0 ≤ x * 2 by omega)
   omega
  rw [w64 (by omega) (by omega), w64 (by omega) (by omega), show (((m + 1 : Nat) : Int) - 1) = (m : Int) by omega, ih k (x * 2) (by omega) (by omega) (by rw [← e]; exact h1) (by omega), e]
theorem size_spec {b : Int} {k : Nat} (h0 : 0 ≤ b) (h1 : b ≤ 32) (hk : 40 ≤ k) : spec_l1Size.f k b = some (sz b) := by
 unfold spec_l1Size.f spec_l1Two.f
 rw [w64 (by omega) (by omega)]
 have e : (32 - b) = (((32 - b).toNat : Nat) : Int) := by omega
 have hs := sz_le h0
 rw [e, two_ev _ k 1 (by omega) (by omega) (by unfold sz at hs; omega) (by omega)]
 simp [sz]
theorem size_impl {a b : Int} (h0 : 0 ≤ b) (h1 : b ≤ 32) : impl_Block_size.f a b = some (sz b) := by
 unfold impl_Block_size.f
 have hs := sz_le h0
 have hp := sz_pos b
 rw [w64 (by omega) (by omega), if_pos (by omega)]
 unfold shl
 rw [show min (32 - b).toNat IntKind.i64.bits = (32 - b).toNat from Nat.min_eq_left (by show (32 - b).toNat ≤ 64; omega)]
 congr 1
 rw [Int.one_mul]
 show IntKind.i64.wrap (sz b) = sz b
 rw [IntKind.wrap_i64]
 omega
/-- A block is valid. -/
def bok (a b : Int) : Bool := decide (0 ≤ a ∧ a ≤ 4294967295 ∧ 0 ≤ b ∧ b ≤ 32 ∧ a % sz b = 0)
theorem bok_iff {a b : Int} : bok a b = true ↔ 0 ≤ a ∧ a ≤ 4294967295 ∧ 0 ≤ b ∧ b ≤ 32 ∧ a % sz b = 0 := by
 unfold bok
 rw [decide_eq_true_iff]
theorem tmod_of {a b : Int} (h : 0 ≤ a) : Int.tmod a (sz b) = a % sz b := Int.tmod_eq_emod_of_nonneg h
theorem ok_spec {k : Nat} (a b : Int) (hk : 40 ≤ k) : spec_BlockOk.f k a b = some (bok a b) := by
 unfold spec_BlockOk.f
 rw [addr_spec, Option.bind_some]
 by_cases h : 0 ≤ a ∧ a ≤ 4294967295
 ·rw [if_pos (by simpa using h), in_spec, Option.bind_some]
  by_cases h2 : 0 ≤ b ∧ b ≤ 32
  ·rw [if_pos (by simpa using h2), size_spec h2.1 h2.2 hk, Option.bind_some, if_neg (by have := sz_pos b; omega), tmod_of h.1]
   congr 1
   unfold bok
   rw [Bool.eq_iff_iff]
   simp [h, h2]
  ·rw [if_neg (by simpa using h2)]
   congr 1
   symm
   unfold bok
   rw [decide_eq_false_iff_not]
   omega
 ·rw [if_neg (by simpa using h)]
  congr 1
  symm
  unfold bok
  rw [decide_eq_false_iff_not]
  omega
theorem ok_impl (a b : Int) : impl_BlockOk.f a b = some (bok a b) := by
 unfold impl_BlockOk.f
 rw [addr_impl, Option.bind_some]
 by_cases h : 0 ≤ a ∧ a ≤ 4294967295
 ·rw [if_pos (by simpa using h), in_impl, Option.bind_some]
  by_cases h2 : 0 ≤ b ∧ b ≤ 32
  ·rw [if_pos (by simpa using h2), size_impl h2.1 h2.2, Option.bind_some, if_neg (by have := sz_pos b; omega), tmod_of h.1]
   congr 1
   unfold bok
   rw [Bool.eq_iff_iff]
   simp [h, h2]
  ·rw [if_neg (by simpa using h2)]
   congr 1
   symm
   unfold bok
   rw [decide_eq_false_iff_not]
   omega
 ·rw [if_neg (by simpa using h)]
  congr 1
  symm
  unfold bok
  rw [decide_eq_false_iff_not]
  omega
end Go.Proofs.YtgbdnbbfgcogjaaDoor.Pure

namespace Go.Proofs.YtgbdnbbfgcogjaaDoor.Tx
set_option linter.unusedSimpArgs false
set_option linter.unusedVariables false
open Go.RowKit Go.Proofs.YtgbdnbbfgcogjaaDoor.Q Go.Proofs.YtgbdnbbfgcogjaaDoor.Pure Go.Proofs.YtgbdnbbfgcogjaaDoorW.PrintWords Go.Proofs.YtgbdnbbfgcogjaaDoorW.PrintLast Go.Proofs.YtgbdnbbfgcogjaaDoorW.PrintMore
/-- A text of some bytes. -/
def bs (l : List UInt8) : ByteArray := ⟨l.toArray⟩
theorem bs_size (l : List UInt8) : (bs l).size = l.length := by simp [bs, ByteArray.size]
theorem bs_append (a b : List UInt8) : bs a ++ bs b = bs (a ++ b) := by
 apply ByteArray.ext
 simp [bs]
/-- The figures of a number. -/
abbrev dec (n : Nat) : List UInt8 := Lib.decDigits n
theorem dec_small {n : Nat} (h : n < 10) : dec n = [UInt8.ofNat (48 + n)] := by
 unfold dec; rw [Lib.decDigits, dif_pos h]
theorem dec_big {n : Nat} (h : ¬ n < 10) : dec n = dec (n / 10) ++ [UInt8.ofNat (48 + n % 10)] := by
 unfold dec; rw [Lib.decDigits, dif_neg h]
theorem dec_len : ∀ (d n : Nat), n < 10 ^ (d + 1) → (dec n).length ≤ d + 1
 | 0, n, h => by rw [dec_small (by simpa using h)]; simp
 | d + 1, n, h => by
  by_cases hc : n < 10
  ·rw [dec_small hc]; simp
  ·rw [dec_big hc, List.length_append, List.length_singleton]
   have := dec_len d (n / 10) (by rw [Nat.pow_succ] at h; omega)
   omega
theorem dec_pos (n : Nat) : 1 ≤ (dec n).length := by
 by_cases hc : n < 10
 ·rw [dec_small hc]; simp
 ·rw [dec_big hc, List.length_append, List.length_singleton]; omega
/-- An address in four numbers. -/
def addrT (a : Nat) : List UInt8 := dec (a / 16777216) ++ [46] ++ dec (a / 65536 % 256) ++ [46] ++ dec (a / 256 % 256) ++ [46] ++ dec (a % 256)
theorem dec_byte {n : Nat} (h : n < 256) : (dec n).length ≤ 3 := dec_len 2 n (by simp; omega)
theorem addrT_len {a : Nat} (h : a < 4294967296) : (addrT a).length ≤ 15 := by
 have h1 := dec_byte (show a / 16777216 < 256 by omega)
 have h2 := dec_byte (show a / 65536 % 256 < 256 by omega)
 have h3 := dec_byte (show a / 256 % 256 < 256 by omega)
 have h4 := dec_byte (show a % 256 < 256 by omega)
 simp only [addrT, List.length_append, List.length_singleton]
 omega
theorem and255 {a : Nat} (h : a < 4611686018427387904) : Go.bits .and .i64 (a : Int) 255 = ((a % 256 : Nat) : Int) := by
 simp only [Go.bits, BitVec.ofInt_natCast, BitVec.toNat_and, BitVec.toNat_ofNat]
 rw [show (BitVec.ofInt IntKind.i64.bits 255).toNat = 255 by decide, Nat.mod_eq_of_lt (show a < 2 ^ IntKind.i64.bits by show a < 2 ^ 64; omega)]
 rw [show a &&& 255 = a % 256 from Nat.and_two_pow_sub_one_eq_mod a 8, IntKind.wrap_i64]
 omega
theorem itoa_ev {n : Nat} (h : n < 256) : strconv_Itoa.f (n : Int) = some (bs (dec n)) := by
 unfold strconv_Itoa.f
 rw [if_pos (by omega)]
 unfold Lib.itoa
 rw [if_neg (by omega), Int.toNat_natCast]
 rfl
theorem byte_at (a : Nat) (h : a < 4294967296) (c m : Nat) (hm : 2 ^ c = m) (hc : c ≤ 24) : Go.bits .and .i64 (shr .i64 (a : Int) (c : Int)) 255 = ((a / m % 256 : Nat) : Int) := by
 have hp : 0 < m := by rw [← hm]; exact Nat.pow_pos (by decide)
 have e : shr .i64 (a : Int) (c : Int) = ((a / m : Nat) : Int) := by
  unfold shr
  rw [Int.toNat_natCast, show min c IntKind.i64.bits = c from Nat.min_eq_left (by show c ≤ 64; omega)]
  rw [← hm]
  push_cast
  rfl
 rw [e, and255]
 exact Nat.lt_of_le_of_lt (Nat.div_le_self _ _) (by omega)
theorem join_four (x y z t : List UInt8) (h : (x ++ [46] ++ y ++ [46] ++ z ++ [46] ++ t).length ≤ 100) : strings_Join.f [bs x, bs y, bs z, bs t] ⟨#[46]⟩ = some (bs (x ++ [46] ++ y ++ [46] ++ z ++ [46] ++ t)) := by
 have e : Lib.join ([bs x, bs y, bs z, bs t].map (·.data.toList)) (ByteArray.mk #[46]).data.toList = x ++ [46] ++ y ++ [46] ++ z ++ [46] ++ t := by
  simp [Lib.join, List.intercalate, bs]
 unfold strings_Join.f
 rw [e, if_pos ⟨by simp, by omega⟩]
 rfl
theorem addrText_in {a : Nat} (h : a < 4294967296) {k : Nat} (hk : 10 ≤ k) : impl_AddrText.f k (a : Int) = some (bs (addrT a)) := by
 obtain ⟨k, rfl⟩ : ∃ j, k = j + 5 := ⟨k - 5, by omega⟩
 have hl := addrT_len h
 unfold impl_AddrText.f
 rw [addr_impl, Option.bind_some, if_pos (decide_eq_true (by omega))]
 have b3 := byte_at a h 24 16777216 (by decide) (by decide)
 have b2 := byte_at a h 16 65536 (by decide) (by decide)
 have b1 := byte_at a h 8 256 (by decide) (by decide)
 have b0 := byte_at a h 0 1 (by decide) (by decide)
 have i3 := itoa_ev (n := a / 16777216 % 256) (by omega)
 have i2 := itoa_ev (n := a / 65536 % 256) (by omega)
 have i1 := itoa_ev (n := a / 256 % 256) (by omega)
 have i0 := itoa_ev (n := a / 1 % 256) (by omega)
 rw [← b3] at i3
 rw [← b2] at i2
 rw [← b1] at i1
 rw [← b0] at i0
 have w3 : wrap64 (24 - 8) = 16 := by rw [w64 (by omega) (by omega)]; rfl
 have w2 : wrap64 (16 - 8) = 8 := by rw [w64 (by omega) (by omega)]; rfl
 have w1 : wrap64 (8 - 8) = 0 := by rw [w64 (by omega) (by omega)]; rfl
 have w0 : wrap64 (0 - 8) = -8 := by rw [w64 (by omega) (by omega)]; rfl
 have s3 : impl_AddrText.l0 (k + 4 + 1) (a : Int) [] 24 = impl_AddrText.l0 (k + 4) (a : Int) [bs (dec (a / 16777216 % 256))] 16 := by
  rw [impl_AddrText.l0, if_pos (by decide), if_pos (by decide)]
  refine Eq.trans (congrArg (fun x => Option.bind x _) i3) ?_
  rw [Option.bind_some, if_pos (by simp), w3]
  rfl
 have s2 : ∀ x, impl_AddrText.l0 (k + 3 + 1) (a : Int) [x] 16 = impl_AddrText.l0 (k + 3) (a : Int) [x, bs (dec (a / 65536 % 256))] 8 := by
  intro x
  rw [impl_AddrText.l0, if_pos (by decide), if_pos (by decide)]
  refine Eq.trans (congrArg (fun x => Option.bind x _) i2) ?_
  rw [Option.bind_some, if_pos (by simp), w2]
  rfl
 have s1 : ∀ x y, impl_AddrText.l0 (k + 2 + 1) (a : Int) [x, y] 8 = impl_AddrText.l0 (k + 2) (a : Int) [x, y, bs (dec (a / 256 % 256))] 0 := by
  intro x y
  rw [impl_AddrText.l0, if_pos (by decide), if_pos (by decide)]
  refine Eq.trans (congrArg (fun x => Option.bind x _) i1) ?_
  rw [Option.bind_some, if_pos (by simp), w1]
  rfl
 have s0 : ∀ x y z, impl_AddrText.l0 (k + 1 + 1) (a : Int) [x, y, z] 0 = impl_AddrText.l0 (k + 1) (a : Int) [x, y, z, bs (dec (a / 1 % 256))] (-8) := by
  intro x y z
  rw [impl_AddrText.l0, if_pos (by decide), if_pos (by decide)]
  refine Eq.trans (congrArg (fun x => Option.bind x _) i0) ?_
  rw [Option.bind_some, if_pos (by simp), w0]
  rfl
 show impl_AddrText.l0 (k + 4 + 1) (a : Int) [] 24 = _
 rw [s3, s2, s1, s0, impl_AddrText.l0, if_neg (by decide)]
 have ha : addrT a = dec (a / 16777216 % 256) ++ [46] ++ dec (a / 65536 % 256) ++ [46] ++ dec (a / 256 % 256) ++ [46] ++ dec (a / 1 % 256) := by
  unfold addrT
  rw [Nat.mod_eq_of_lt (show a / 16777216 < 256 by omega), Nat.div_one]
 rw [ha] at hl ⊢
 rw [join_four _ _ _ _ (by omega), Option.bind_some]
theorem addrText_impl (a : Int) {k : Nat} (hk : 10 ≤ k) : impl_AddrText.f k a = some (if 0 ≤ a ∧ a ≤ 4294967295 then bs (addrT a.toNat) else bs []) := by
 by_cases h : 0 ≤ a ∧ a ≤ 4294967295
 ·rw [if_pos h]
  have e := addrText_in (a := a.toNat) (by omega) hk
  rwa [show ((a.toNat : Nat) : Int) = a by omega] at e
 ·unfold impl_AddrText.f
  rw [addr_impl, Option.bind_some, if_neg (by simpa using h), if_neg h]
  rfl
/-- A block as a text. -/
def blockT (a b : Nat) : List UInt8 := addrT a ++ [47] ++ dec b
/-- A block's text, where it is valid. -/
def blockText (a b : Int) : ByteArray := if bok a b = true then bs (blockT a.toNat b.toNat) else bs []
theorem blockText_impl (a b : Int) {k : Nat} (hk : 40 ≤ k) : impl_BlockText.f k a b = some (blockText a b) := by
 unfold impl_BlockText.f blockText
 rw [ok_impl a b, Option.bind_some]
 by_cases h : bok a b = true
 ·obtain ⟨h0, h1, h2, h3, _⟩ := bok_iff.1 h
  have e := addrText_in (a := a.toNat) (by omega) (show 10 ≤ k by omega)
  have i := itoa_ev (n := b.toNat) (by omega)
  rw [show ((a.toNat : Nat) : Int) = a by omega] at e
  rw [show ((b.toNat : Nat) : Int) = b by omega] at i
  have l1 := addrT_len (a := a.toNat) (by omega)
  have l2 := dec_byte (n := b.toNat) (by omega)
  rw [if_pos h, if_pos h, e, Option.bind_some, i, Option.bind_some, show (⟨#[47]⟩ : ByteArray) = bs [47] from rfl]
  simp only [bs_append, bs_size, List.length_append, List.length_singleton]
  rw [if_pos (by omega), if_pos (by omega)]
  rfl
 ·rw [if_neg h, if_neg h]
  rfl
end Go.Proofs.YtgbdnbbfgcogjaaDoor.Tx

namespace Go.Proofs.YtgbdnbbfgcogjaaDoor.Tx
set_option linter.unusedSimpArgs false
set_option linter.unusedVariables false
open Go.RowKit Go.Proofs.YtgbdnbbfgcogjaaDoor.Q Go.Proofs.YtgbdnbbfgcogjaaDoor.Pure Go.Proofs.YtgbdnbbfgcogjaaDoorW.PrintWords Go.Proofs.YtgbdnbbfgcogjaaDoorW.PrintLast Go.Proofs.YtgbdnbbfgcogjaaDoorW.PrintMore
open Go.Proofs.YtgbdnbbfgcogjaaDoor.Sq (tx parts parts_some parts_none tx_size tx_data tx_extract stepA foldA addrGetF)
theorem fig_nat {d : Nat} (h : d < 10) : (UInt8.ofNat (48 + d)).toNat = 48 + d := by
 rw [UInt8.toNat_ofNat', Nat.mod_eq_of_lt (by omega)]
theorem dec_figs : ∀ n : Nat, ∀ b ∈ dec n, 48 ≤ b.toNat ∧ b.toNat ≤ 57 := by
 intro n
 induction n using Nat.strongRecOn with
 | _ n ih =>
  intro b hb
  by_cases h : n < 10
  ·rw [dec_small h, List.mem_singleton] at hb
   rw [hb, fig_nat h]
   omega
  ·rw [dec_big h] at hb
   rcases List.mem_append.1 hb with hb | hb
   ·exact ih (n / 10) (by omega) b hb
   ·rw [List.mem_singleton] at hb
    rw [hb, fig_nat (by omega)]
    omega
theorem dec_no {c : UInt8} (hc : c.toNat < 48) (n : Nat) : c ∉ dec n := fun h => by
 have := (dec_figs n c h).1
 omega
theorem parse_snoc : ∀ (x : List UInt8) (acc u d : Nat), d < 10 → Lib.parseUint10 acc x = .ok u → u < 100000000000000000 → Lib.parseUint10 acc (x ++ [UInt8.ofNat (48 + d)]) = .ok (u * 10 + d)
 | [], acc, u, d, hd, h, hu => by
  have e : acc = u := by simp only [Lib.parseUint10] at h; injection h
  subst e
  have hf := fig_nat hd
  simp only [List.nil_append, Lib.parseUint10]
  rw [hf, if_pos (by omega), if_neg (by omega), if_neg (by omega)]
  congr 1
  omega
 | c :: r, acc, u, d, hd, h, hu => by
  rw [List.cons_append]
  simp only [Lib.parseUint10] at h ⊢
  split at h
  ·rename_i h1
   rw [if_pos h1]
   split at h
   ·cases h
   ·rename_i h2
    rw [if_neg h2]
    split at h
    ·cases h
    ·rename_i h3
     rw [if_neg h3]
     exact parse_snoc r _ u d hd h hu
  ·cases h
theorem parse_dec : ∀ n : Nat, n < 1000000000000000000 → Lib.parseUint10 0 (dec n) = .ok n := by
 intro n
 induction n using Nat.strongRecOn with
 | _ n ih =>
  intro hn
  by_cases h : n < 10
  ·have := parse_snoc [] 0 0 n h rfl (by omega)
   rw [dec_small h]
   rwa [List.nil_append, Nat.zero_mul, Nat.zero_add] at this
  ·have := parse_snoc (dec (n / 10)) 0 (n / 10) (n % 10) (by omega) (ih (n / 10) (by omega) (by omega)) (by omega)
   rw [dec_big h, this]
   congr 1
   omega
theorem atoi_dec {n : Nat} (hn : n < 1000000000000000000) : Lib.atoiAll (dec n) = .ok (n : Int) := by
 have hp := parse_dec n hn
 have hl := dec_pos n
 have hf := dec_figs n
 cases hd : dec n with
 | nil => rw [hd] at hl; simp at hl
 | cons c r =>
  rw [hd] at hp hf
  have hc := hf c List.mem_cons_self
  simp only [Lib.atoiAll]
  rw [if_neg (by omega)]
  unfold Lib.parseMag
  rw [if_neg (by simp), hp]
  simp only
  rw [if_neg (by omega), if_neg (by omega), if_neg (by omega)]
/-- The figures' number. -/
def digv (b : UInt8) : Nat := b.toNat - 48
def isd (b : UInt8) : Bool := decide (48 ≤ b.toNat ∧ b.toNat ≤ 57)
def valF : Nat → List UInt8 → Nat
 | acc, [] => acc
 | acc, b :: r => valF (acc * 10 + digv b) r
theorem val_snoc (d : UInt8) : ∀ (y : List UInt8) (acc : Nat), valF acc (y ++ [d]) = valF acc y * 10 + digv d
 | [], acc => rfl
 | b :: y, acc => val_snoc d y _
theorem val_ge : ∀ (y : List UInt8) (acc : Nat), acc ≤ valF acc y
 | [], acc => Nat.le_refl _
 | b :: y, acc => by
  have := val_ge y (acc * 10 + digv b)
  show acc ≤ valF (acc * 10 + digv b) y
  omega
theorem fig_back {b : UInt8} (h : isd b = true) : UInt8.ofNat (48 + digv b) = b ∧ digv b < 10 := by
 have h' := of_decide_eq_true h
 unfold digv
 refine ⟨?_, by omega⟩
 apply UInt8.toNat_inj.1
 rw [UInt8.toNat_ofNat', Nat.mod_eq_of_lt (by have := b.toNat_lt; omega)]
 omega
theorem back : ∀ (m : Nat) (x : List UInt8), x.length = m + 1 → x.all isd = true → (1 < x.length → x.head? ≠ some 48) → dec (valF 0 x) = x
 | 0, x, hl, ha, _ => by
  obtain ⟨d, rfl⟩ := List.length_eq_one_iff.1 hl
  have hd : isd d = true := by simpa using ha
  obtain ⟨h1, h2⟩ := fig_back hd
  show dec (0 * 10 + digv d) = [d]
  rw [Nat.zero_mul, Nat.zero_add, dec_small h2, h1]
 | m + 1, x, hl, ha, hh => by
  have hne : x ≠ [] := fun e => by rw [e] at hl; simp at hl
  have hx := List.dropLast_concat_getLast hne
  generalize hy : x.dropLast = y at hx
  generalize hz : x.getLast hne = d at hx
  subst hx
  have hyl : y.length = m + 1 := by rw [List.length_append, List.length_singleton] at hl; omega
  rw [List.all_append, Bool.and_eq_true] at ha
  have hd : isd d = true := by simpa using ha.2
  obtain ⟨h1, h2⟩ := fig_back hd
  cases hyc : y with
  | nil => rw [hyc] at hyl; simp at hyl
  | cons c r =>
   have hc : c ≠ 48 := fun e => by
    refine hh (by rw [hl]; omega) ?_
    rw [hyc, e]
    rfl
   have hcd : isd c = true := by
    have := ha.1
    rw [hyc, List.all_cons, Bool.and_eq_true] at this
    exact this.1
   have hb := back m y hyl ha.1 (fun _ => by rw [hyc]; intro e; exact hc (Option.some.inj e))
   rw [← hyc]
   have hv : 1 ≤ valF 0 y := by
    rw [hyc]
    have := val_ge r (0 * 10 + digv c)
    have hcn := of_decide_eq_true hcd
    have : 49 ≤ c.toNat := by
     rcases Nat.lt_or_ge c.toNat 49 with h | h
     ·exact absurd (UInt8.toNat_inj.1 (show c.toNat = (48 : UInt8).toNat by show c.toNat = 48; omega)) hc
     ·exact h
    show 1 ≤ valF (0 * 10 + digv c) r
    unfold digv at *
    omega
   rw [val_snoc, dec_big (by omega), show (valF 0 y * 10 + digv d) / 10 = valF 0 y by omega, show (valF 0 y * 10 + digv d) % 10 = digv d by omega, hb, h1]
theorem val_dec : ∀ n : Nat, valF 0 (dec n) = n := by
 intro n
 induction n using Nat.strongRecOn with
 | _ n ih =>
  by_cases h : n < 10
  ·rw [dec_small h]
   show 0 * 10 + digv _ = n
   unfold digv
   rw [fig_nat h]
   omega
  ·rw [dec_big h, val_snoc, ih (n / 10) (by omega)]
   unfold digv
   rw [fig_nat (by omega)]
   omega
theorem dec_head : ∀ n : Nat, 1 ≤ n → (dec n).head? ≠ some 48 := by
 intro n
 induction n using Nat.strongRecOn with
 | _ n ih =>
  intro hn
  by_cases h : n < 10
  ·rw [dec_small h]
   intro e
   have := congrArg UInt8.toNat (Option.some.inj e)
   rw [fig_nat h] at this
   change 48 + n = 48 at this
   omega
  ·have h1 := ih (n / 10) (by omega) (by omega)
   rw [dec_big h]
   cases hd : dec (n / 10) with
   | nil => have := dec_pos (n / 10); rw [hd] at this; simp at this
   | cons c r => rw [hd] at h1; exact h1
/-- What the reference makes of a text that should be a number. -/
def numE (x : List UInt8) : Int := if x.length = 0 ∨ 9 < x.length ∨ (1 < x.length ∧ x.head? = some 48) then -1 else if x.all isd = true then (valF 0 x : Int) else -1
theorem num_back {x : List UInt8} {n : Nat} (h : numE x = n) : x = dec n := by
 unfold numE at h
 split at h
 ·omega
 ·rename_i hc
  split at h
  ·rename_i ha
   have e : valF 0 x = n := by omega
   obtain ⟨m, hm⟩ : ∃ m, x.length = m + 1 := ⟨x.length - 1, by omega⟩
   have := back m x hm ha (fun h1 h2 => hc (.inr (.inr ⟨h1, h2⟩)))
   rw [← this, e]
  ·omega
theorem num_dec {n : Nat} (hn : n < 1000000000) : numE (dec n) = n := by
 have h1 := dec_pos n
 have h2 := dec_len 8 n (by simpa using hn)
 unfold numE
 rw [if_neg, if_pos, val_dec]
 ·rw [List.all_eq_true]
  exact fun b hb => decide_eq_true (dec_figs n b hb)
 ·rintro (h | h | ⟨h, h'⟩)
  ·omega
  ·omega
  ·by_cases hs : n < 10
   ·rw [dec_small hs] at h; simp at h
   ·exact dec_head n (by omega) h'
theorem bt_tx (l : List UInt8) (i : Nat) : bt (tx l) (i : Int) = ((l.getD i 0).toNat : Int) := by
 rw [← rd_bytesOf]
 show (bytesOf (tx l)).getD i 0 = _
 unfold bytesOf
 rw [List.getD_eq_getElem?_getD, List.getElem?_map, List.getD_eq_getElem?_getD, tx_data]
 cases l[i]? with
 | none => rfl
 | some b => rfl
theorem bt_mid (p : List UInt8) (b : UInt8) (r : List UInt8) : bt (tx (p ++ b :: r)) ((p.length : Nat) : Int) = (b.toNat : Int) := by
 rw [bt_tx, List.getD_eq_getElem?_getD, List.getElem?_append_right (Nat.le_refl _), Nat.sub_self]
 rfl
theorem num_loop : ∀ (r p : List UInt8) (acc : Nat), p.length + r.length ≤ 9 → acc < 10 ^ p.length → ∀ k, r.length < k → spec_l1Num.l0 k (tx (p ++ r)) (acc : Int) (p.length : Int) = some (if r.all isd = true then (valF acc r : Int) else -1) := by
 intro r
 induction r with
 | nil =>
  intro p acc hl ha k hk
  obtain ⟨k, rfl⟩ : ∃ j, k = j + 1 := ⟨k - 1, by omega⟩
  simp only [spec_l1Num.l0]
  rw [List.append_nil, tx_size, if_neg (by omega)]
  rfl
 | cons b r ih =>
  intro p acc hl ha k hk
  rw [List.length_cons] at hl hk
  obtain ⟨k, rfl⟩ : ∃ j, k = j + 1 := ⟨k - 1, by omega⟩
  have hm : acc < 1000000000 := by
   have := Nat.pow_le_pow_right (show 0 < 10 by decide) (show p.length ≤ 9 by omega)
   have e : (10 : Nat) ^ 9 = 1000000000 := by decide
   omega
  have hb := b.toNat_lt
  simp only [spec_l1Num.l0]
  rw [tx_size, List.length_append, List.length_cons, if_pos (by omega), if_pos (by omega), bt_mid]
  by_cases h1 : b.toNat < 48
  ·rw [if_pos (by omega), if_neg]
   rw [List.all_cons, Bool.and_eq_true]
   exact fun h => by have := of_decide_eq_true h.1; omega
  ·by_cases h2 : 57 < b.toNat
   ·rw [if_neg (by omega), if_pos (by omega), if_neg]
    rw [List.all_cons, Bool.and_eq_true]
    exact fun h => by have := of_decide_eq_true h.1; omega
   ·have hd : isd b = true := decide_eq_true (by omega)
    rw [if_neg (by omega), if_neg (by omega), w64 (x := (acc : Int) * 10) (by omega) (by omega), w64 (x := (p.length : Int) + 1) (by omega) (by omega), w64 (by omega) (by omega), show (acc : Int) * 10 + ((b.toNat : Int) - 48) % 256 = ((acc * 10 + digv b : Nat) : Int) by unfold digv; omega]
    have h := ih (p ++ [b]) (acc * 10 + digv b) (by rw [List.length_append, List.length_singleton]; omega) (by rw [List.length_append, List.length_singleton, Nat.pow_succ]; unfold digv; omega) k (by omega)
    rw [List.append_assoc, List.singleton_append, List.length_append, List.length_singleton] at h
    rw [show (p.length : Int) + 1 = ((p.length + 1 : Nat) : Int) by omega, h, List.all_cons, hd, Bool.true_and]
    rfl
theorem num_ev (x : List UInt8) {k : Nat} (hk : 20 ≤ k) : spec_l1Num.f k (tx x) = some (numE x) := by
 obtain ⟨k, rfl⟩ : ∃ j, k = j + 1 := ⟨k - 1, by omega⟩
 unfold spec_l1Num.f numE
 simp only [spec_l1Num.j0]
 rw [tx_size]
 by_cases h0 : x.length = 0
 ·rw [if_pos (by omega), if_pos trivial, if_pos (.inl h0)]
 ·rw [if_neg (by omega)]
  by_cases h1 : 9 < x.length
  ·rw [if_pos (by omega), if_pos trivial, if_pos (.inr (.inl h1))]
  ·rw [if_neg (by omega)]
   have hl := num_loop x [] 0 (by simp; omega) (by decide) k (by omega)
   rw [List.nil_append] at hl
   have hl' : spec_l1Num.l0 k (tx x) 0 0 = some (if x.all isd = true then (valF 0 x : Int) else -1) := hl
   cases x with
   | nil => simp at h0
   | cons c r =>
    have hb : bt (tx (c :: r)) 0 = (c.toNat : Int) := bt_mid [] c r
    by_cases h2 : 1 < (c :: r).length
    ·rw [if_pos (by omega), if_pos (by omega), hb]
     by_cases h3 : c = 48
     ·rw [if_pos (by rw [h3]; rfl), if_pos (.inr (.inr ⟨h2, by rw [h3]; rfl⟩))]
     ·have hc : ((c.toNat : Int) == 48) = false := by
       rw [beq_eq_false_iff_ne]
       intro e
       exact h3 (UInt8.toNat_inj.1 (show c.toNat = (48 : UInt8).toNat by show c.toNat = 48; omega))
      have hcd : ¬ ((c :: r).length = 0 ∨ 9 < (c :: r).length ∨ (1 < (c :: r).length ∧ (c :: r).head? = some 48)) := by
       rintro (h | h | ⟨_, h⟩)
       ·exact h0 h
       ·exact h1 h
       ·exact h3 (Option.some.inj h)
      rw [hc, if_neg (by simp), hl', if_neg hcd]
    ·have hcd : ¬ ((c :: r).length = 0 ∨ 9 < (c :: r).length ∨ (1 < (c :: r).length ∧ (c :: r).head? = some 48)) := by
      rintro (h | h | ⟨h, _⟩)
      ·exact h0 h
      ·exact h1 h
      ·exact h2 h
     rw [if_neg (by omega), if_neg (by simp), hl', if_neg hcd]
theorem cut_loop (c : UInt8) : ∀ (r a cur : List UInt8) (acc : List ByteArray), c ∉ cur → a.length + cur.length + r.length ≤ 1000000000 → acc.length + r.length ≤ 1000000000 → ∀ k, r.length < k →
  spec_l1Cut.l0 k (tx (a ++ cur ++ r)) (c.toNat : Int) acc (a.length : Int) ((a.length + cur.length : Nat) : Int) = some (acc ++ (parts c (cur ++ r)).map tx) := by
 intro r
 induction r with
 | nil =>
  intro a cur acc hc hl ha k hk
  rw [List.length_nil] at hl ha
  obtain ⟨k, rfl⟩ : ∃ j, k = j + 1 := ⟨k - 1, by omega⟩
  simp only [spec_l1Cut.l0]
  rw [List.append_nil, List.append_nil, tx_size, List.length_append, if_neg (by omega), if_pos (by omega), if_pos (by omega), if_pos (by omega), parts_none hc, Int.toNat_natCast, tx_extract, List.take_of_length_le (by rw [List.length_append]; exact Nat.le_refl _), List.drop_left]
  rfl
 | cons b r ih =>
  intro a cur acc hc hl ha k hk
  rw [List.length_cons] at hl ha hk
  obtain ⟨k, rfl⟩ : ∃ j, k = j + 1 := ⟨k - 1, by omega⟩
  have hbt : bt (tx (a ++ cur ++ b :: r)) ((a.length + cur.length : Nat) : Int) = (b.toNat : Int) := by
   have := bt_mid (a ++ cur) b r
   rwa [List.length_append] at this
  simp only [spec_l1Cut.l0]
  rw [tx_size, hbt, List.length_append, List.length_append, List.length_cons, if_pos (by omega), if_pos (by omega), w64 (by omega) (by omega)]
  by_cases h : b = c
  ·subst h
   rw [if_pos rfl, if_pos (by omega), if_pos (by omega), if_pos (by omega), if_pos (by omega), Int.toNat_natCast, Int.toNat_natCast, tx_extract]
   have e : ((a ++ cur ++ b :: r).take (a.length + cur.length)).drop a.length = cur := by
    rw [List.take_left' (List.length_append ..), List.drop_left]
   have hi := ih (a ++ cur ++ [b]) [] (acc ++ [tx cur]) (by simp) (by simp; omega) (by simp; omega) k (by omega)
   rw [e, parts_some r hc]
   rw [List.append_nil, List.append_assoc (a ++ cur), List.singleton_append, List.length_nil, Nat.add_zero, List.length_append, List.length_append, List.length_singleton, List.nil_append, List.append_assoc acc] at hi
   rw [show ((a.length + cur.length : Nat) : Int) + 1 = ((a.length + cur.length + 1 : Nat) : Int) by omega]
   exact hi
  ·have hne : ¬ (b.toNat : Int) = (c.toNat : Int) := fun e => h (UInt8.toNat_inj.1 (by omega))
   have hi := ih a (cur ++ [b]) acc (fun hm => by
    rcases List.mem_append.1 hm with hm | hm
    ·exact hc hm
    ·exact h (List.mem_singleton.1 hm).symm) (by simp; omega) (by omega) k (by omega)
   rw [if_neg hne]
   rw [← List.append_assoc a, List.append_assoc (a ++ cur), List.append_assoc cur, List.singleton_append, List.length_append, List.length_singleton] at hi
   rw [show ((a.length + cur.length : Nat) : Int) + 1 = ((a.length + (cur.length + 1) : Nat) : Int) by omega]
   exact hi
theorem cut_ev (c : UInt8) (l : List UInt8) (hl : l.length ≤ 1000000000) {k : Nat} (hk : l.length < k) : spec_l1Cut.f k (tx l) (c.toNat : Int) = some ((parts c l).map tx) := by
 unfold spec_l1Cut.f
 have h := cut_loop c l [] [] [] (by simp) (by simpa using hl) (by simpa using hl) k hk
 exact h
end Go.Proofs.YtgbdnbbfgcogjaaDoor.Tx

namespace Go.Proofs.YtgbdnbbfgcogjaaDoor.Tx
set_option linter.unusedSimpArgs false
set_option linter.unusedVariables false
open Go.RowKit Go.Proofs.YtgbdnbbfgcogjaaDoor.Q Go.Proofs.YtgbdnbbfgcogjaaDoor.Pure Go.Proofs.YtgbdnbbfgcogjaaDoorW.PrintWords Go.Proofs.YtgbdnbbfgcogjaaDoorW.PrintLast Go.Proofs.YtgbdnbbfgcogjaaDoorW.PrintMore
open Go.Proofs.YtgbdnbbfgcogjaaDoor.Sq (tx parts parts_some parts_none parts_len tx_size tx_data tx_extract stepA foldA addrGetF)
def glue (c : UInt8) : List (List UInt8) → List UInt8
 | [] => []
 | [p] => p
 | p :: q :: r => p ++ c :: glue c (q :: r)
theorem glue_parts (c : UInt8) : ∀ l : List UInt8, glue c (parts c l) = l
 | [] => rfl
 | b :: r => by
  have ih := glue_parts c r
  have hn := (parts_len c r).1
  cases hp : parts c r with
  | nil => rw [hp] at hn; simp at hn
  | cons p ps =>
   rw [hp] at ih
   by_cases h : b = c
   ·have e : parts c (b :: r) = [] :: p :: ps := by simp [parts, h, hp]
    rw [e, h]
    show [] ++ c :: glue c (p :: ps) = c :: r
    rw [ih]
    rfl
   ·have e : parts c (b :: r) = (b :: p) :: ps := by simp [parts, h, hp]
    rw [e]
    cases ps with
    | nil =>
     have : p = r := ih
     rw [this]
     rfl
    | cons q qs =>
     have : p ++ c :: glue c (q :: qs) = r := ih
     show b :: (p ++ c :: glue c (q :: qs)) = b :: r
     rw [this]
theorem no46 (n : Nat) : (46 : UInt8) ∉ dec n := dec_no (by decide) n
theorem parts_addr (a : Nat) : parts 46 (addrT a) = [dec (a / 16777216), dec (a / 65536 % 256), dec (a / 256 % 256), dec (a % 256)] := by
 have e : addrT a = dec (a / 16777216) ++ 46 :: (dec (a / 65536 % 256) ++ 46 :: (dec (a / 256 % 256) ++ 46 :: dec (a % 256))) := by simp [addrT]
 rw [e, parts_some _ (no46 _), parts_some _ (no46 _), parts_some _ (no46 _), parts_none (no46 _)]
theorem four_addr {n0 n1 n2 n3 : Nat} (h0 : n0 ≤ 255) (h1 : n1 ≤ 255) (h2 : n2 ≤ 255) (h3 : n3 ≤ 255) : glue 46 [dec n0, dec n1, dec n2, dec n3] = addrT (((n0 * 256 + n1) * 256 + n2) * 256 + n3) := by
 have e0 : (((n0 * 256 + n1) * 256 + n2) * 256 + n3) / 16777216 = n0 := by omega
 have e1 : (((n0 * 256 + n1) * 256 + n2) * 256 + n3) / 65536 % 256 = n1 := by omega
 have e2 : (((n0 * 256 + n1) * 256 + n2) * 256 + n3) / 256 % 256 = n2 := by omega
 have e3 : (((n0 * 256 + n1) * 256 + n2) * 256 + n3) % 256 = n3 := by omega
 unfold addrT
 rw [e0, e1, e2, e3]
 simp [glue]
theorem addrT_pos (a : Nat) : addrT a ≠ [] := by
 intro h
 have := congrArg List.length h
 simp [addrT] at this
theorem get_step (xs : List (List UInt8)) (acc : Int) (i : Nat) (x : List UInt8) (hx : xs[i]? = some x) (hi : i < 4) (h0 : 0 ≤ acc) (h1 : acc ≤ 4294967296) {k : Nat} (hk : 30 ≤ k) :
  spec_AddrGet.l0 (k + 1) (xs.map tx) acc (i : Int) = if 0 ≤ numE x ∧ numE x ≤ 255 then spec_AddrGet.l0 k (xs.map tx) (acc * 256 + numE x) ((i + 1 : Nat) : Int) else some (0, false) := by
 have hlt : i < xs.length := by
  rcases Nat.lt_or_ge i xs.length with h | h
  ·exact h
  ·rw [List.getElem?_eq_none h] at hx; cases hx
 have hr : rdOf ByteArray.empty (xs.map tx) (i : Int) = tx x := by
  show (xs.map tx).getD ((i : Int)).toNat _ = _
  rw [Int.toNat_natCast, List.getD_eq_getElem?_getD, List.getElem?_map, hx]
  rfl
 simp only [spec_AddrGet.l0]
 rw [if_pos (by omega), if_pos (by omega), if_pos (by rw [List.length_map]; omega), hr, num_ev x (by omega), Option.bind_some, in_spec, Option.bind_some]
 by_cases h : 0 ≤ numE x ∧ numE x ≤ 255
 ·rw [if_pos (decide_eq_true h), if_pos h, w64 (x := acc * 256) (by omega) (by omega), w64 (by omega) (by omega), w64 (by omega) (by omega)]
  rfl
 ·rw [if_neg (by simpa using h), if_neg h]
theorem get_end (xs : List (List UInt8)) (acc : Int) {k : Nat} : spec_AddrGet.l0 (k + 1) (xs.map tx) acc ((3 + 1 : Nat) : Int) = some (acc, true) := by
 simp only [spec_AddrGet.l0]
 rw [if_neg (by omega)]
theorem spec_get (l : List UInt8) (hl : l.length ≤ 1000000000) {k : Nat} (hk : l.length + 100 ≤ k) : spec_AddrGet.f k (tx l) = (match parts 46 l with
  | [A, B, C, D] => if (0 ≤ numE A ∧ numE A ≤ 255) ∧ (0 ≤ numE B ∧ numE B ≤ 255) ∧ (0 ≤ numE C ∧ numE C ≤ 255) ∧ (0 ≤ numE D ∧ numE D ≤ 255) then some (((numE A * 256 + numE B) * 256 + numE C) * 256 + numE D, true) else some (0, false)
  | _ => some (0, false)) := by
 obtain ⟨k, rfl⟩ : ∃ j, k = j + 5 := ⟨k - 5, by omega⟩
 have hc := cut_ev 46 l hl (k := k + 5) (by omega)
 have hc' : spec_l1Cut.f (k + 5) (tx l) 46 = some ((parts 46 l).map tx) := hc
 unfold spec_AddrGet.f
 rw [hc', Option.bind_some, List.length_map]
 generalize parts 46 l = xs
 by_cases h4 : xs.length = 4
 ·obtain ⟨A, B, C, D, rfl⟩ : ∃ A B C D, xs = [A, B, C, D] := by
   match xs, h4 with
   | [A, B, C, D], _ => exact ⟨A, B, C, D, rfl⟩
  rw [if_pos (by rw [h4]; rfl)]
  dsimp only
  have s0 := get_step [A, B, C, D] 0 0 A rfl (by omega) (by omega) (by omega) (k := k + 4) (by omega)
  rw [Int.zero_mul, Int.zero_add] at s0
  refine Eq.trans s0 ?_
  by_cases hA : 0 ≤ numE A ∧ numE A ≤ 255
  ·rw [if_pos hA, get_step [A, B, C, D] (numE A) (0 + 1) B rfl (by omega) (by omega) (by omega) (k := k + 3) (by omega)]
   by_cases hB : 0 ≤ numE B ∧ numE B ≤ 255
   ·rw [if_pos hB, get_step [A, B, C, D] (numE A * 256 + numE B) (0 + 1 + 1) C rfl (by omega) (by omega) (by omega) (k := k + 2) (by omega)]
    by_cases hC : 0 ≤ numE C ∧ numE C ≤ 255
    ·rw [if_pos hC, get_step [A, B, C, D] ((numE A * 256 + numE B) * 256 + numE C) (0 + 1 + 1 + 1) D rfl (by omega) (by omega) (by omega) (k := k + 1) (by omega)]
     by_cases hD : 0 ≤ numE D ∧ numE D ≤ 255
     ·rw [if_pos hD, if_pos ⟨hA, hB, hC, hD⟩]
      exact get_end _ _
     ·rw [if_neg hD, if_neg fun h => hD h.2.2.2]
    ·rw [if_neg hC, if_neg fun h => hC h.2.2.1]
   ·rw [if_neg hB, if_neg fun h => hB h.2.1]
  ·rw [if_neg hA, if_neg fun h => hA h.1]
 ·rw [if_neg (by omega)]
  split
  ·simp at h4
  ·rfl
theorem spec_yes {a : Nat} (ha : a < 4294967296) {k : Nat} (hk : 200 ≤ k) : spec_AddrGet.f k (tx (addrT a)) = some ((a : Int), true) := by
 have hl := addrT_len ha
 rw [spec_get _ (by omega) (by omega), parts_addr]
 simp only
 rw [num_dec (by omega), num_dec (n := a / 65536 % 256) (by omega), num_dec (n := a / 256 % 256) (by omega), num_dec (n := a % 256) (by omega), if_pos (by omega)]
 congr 2
 omega
theorem spec_no {l : List UInt8} (hl : l.length ≤ 1000000000) (hn : ∀ a < 4294967296, l ≠ addrT a) {k : Nat} (hk : l.length + 100 ≤ k) : spec_AddrGet.f k (tx l) = some (0, false) := by
 have hg := glue_parts 46 l
 rw [spec_get l hl hk]
 split
 ·rename_i A B C D hp
  rw [if_neg]
  rintro ⟨⟨a0, a1⟩, ⟨b0, b1⟩, ⟨c0, c1⟩, d0, d1⟩
  obtain ⟨n0, e0⟩ := Int.eq_ofNat_of_zero_le a0
  obtain ⟨n1, e1⟩ := Int.eq_ofNat_of_zero_le b0
  obtain ⟨n2, e2⟩ := Int.eq_ofNat_of_zero_le c0
  obtain ⟨n3, e3⟩ := Int.eq_ofNat_of_zero_le d0
  rw [hp, num_back e0, num_back e1, num_back e2, num_back e3, four_addr (by omega) (by omega) (by omega) (by omega)] at hg
  exact hn _ (by omega) hg.symm
 ·rfl
theorem or_b {x b : Int} (h0 : 0 ≤ x) (h1 : x < 1152921504606846976) (hx : x % 256 = 0) (b0 : 0 ≤ b) (b1 : b ≤ 255) : Go.bits .or .i64 x b = x + b :=
 bits_join .i64 60 (by decide) (fun n g0 g1 => by rw [IntKind.wrap_i64]; omega) 8 x b h0 (by omega) (by omega) b0 (by omega) (by omega)
theorem step_dec {acc n : Nat} (ha : acc ≤ 16777215) (hn : n ≤ 255) : stepA (acc : Int) (tx (dec n)) = some ((acc * 256 + n : Nat) : Int) := by
 unfold stepA
 rw [tx_data, atoi_dec (by omega)]
 simp only
 rw [if_pos (by omega), or_b (by omega) (by omega) (by omega) (by omega) (by omega)]
 congr 1
theorem fold_addr {a : Nat} (ha : a < 4294967296) : foldA 0 ((parts 46 (addrT a)).map tx) = some (a : Int) := by
 rw [parts_addr]
 have s0 := step_dec (acc := 0) (n := a / 16777216) (by omega) (by omega)
 have s1 := step_dec (acc := 0 * 256 + a / 16777216) (n := a / 65536 % 256) (by omega) (by omega)
 have s2 := step_dec (acc := (0 * 256 + a / 16777216) * 256 + a / 65536 % 256) (n := a / 256 % 256) (by omega) (by omega)
 have s3 := step_dec (acc := ((0 * 256 + a / 16777216) * 256 + a / 65536 % 256) * 256 + a / 256 % 256) (n := a % 256) (by omega) (by omega)
 show ((stepA ((0 : Nat) : Int) (tx (dec (a / 16777216)))).bind fun b => (stepA b (tx (dec (a / 65536 % 256)))).bind fun b => (stepA b (tx (dec (a / 256 % 256)))).bind fun b => (stepA b (tx (dec (a % 256)))).bind fun b => some b) = _
 rw [s0, Option.bind_some, s1, Option.bind_some, s2, Option.bind_some, s3, Option.bind_some]
 congr 1
 omega
theorem impl_yes {a : Nat} (ha : a < 4294967296) {k : Nat} (hk : 10 ≤ k) : impl_AddrGet.f k (tx (addrT a)) = some ((a : Int), true) := by
 have hl := addrT_len ha
 unfold impl_AddrGet.f addrGetF
 rw [tx_size, if_pos (by omega), tx_data, fold_addr ha]
 simp only
 rw [addrText_in ha hk, Option.bind_some]
 exact if_pos rfl
theorem tx_inj {x y : List UInt8} (h : tx x = tx y) : x = y := by rw [← tx_data x, h, tx_data]
theorem impl_no {l : List UInt8} (hl : l.length ≤ 1000000000) (hn : ∀ a < 4294967296, l ≠ addrT a) {k : Nat} (hk : 10 ≤ k) : impl_AddrGet.f k (tx l) = some (0, false) := by
 unfold impl_AddrGet.f addrGetF
 rw [tx_size, if_pos hl, tx_data]
 rcases hf : foldA 0 ((parts 46 l).map tx) with _ | a
 ·rfl
 ·simp only
  rw [addrText_impl a hk, Option.bind_some, if_neg]
  intro e
  by_cases h : 0 ≤ a ∧ a ≤ 4294967295
  ·rw [if_pos h] at e
   exact hn a.toNat (by omega) (tx_inj e).symm
  ·rw [if_neg h] at e
   have hnil : l = [] := (tx_inj e).symm
   rw [hnil] at hf
   have : stepA 0 (tx []) = none := by
    unfold stepA
    rw [tx_data]
    rfl
   change ((stepA 0 (tx [])).bind fun b => some b) = some a at hf
   rw [this] at hf
   cases hf
/-- A text is an address's, or it is none. -/
theorem addr_or (l : List UInt8) : (∃ a < 4294967296, l = addrT a) ∨ ∀ a < 4294967296, l ≠ addrT a := by
 by_cases h : ∃ a < 4294967296, l = addrT a
 ·exact .inl h
 ·exact .inr fun a ha e => h ⟨a, ha, e⟩
end Go.Proofs.YtgbdnbbfgcogjaaDoor.Tx

namespace Go.Proofs.YtgbdnbbfgcogjaaDoor.Tx
set_option linter.unusedSimpArgs false
set_option linter.unusedVariables false
open Go.RowKit Go.Proofs.YtgbdnbbfgcogjaaDoor.Q Go.Proofs.YtgbdnbbfgcogjaaDoor.Pure Go.Proofs.YtgbdnbbfgcogjaaDoorW.PrintWords Go.Proofs.YtgbdnbbfgcogjaaDoorW.PrintLast Go.Proofs.YtgbdnbbfgcogjaaDoorW.PrintMore
open Go.Proofs.YtgbdnbbfgcogjaaDoor.Sq (tx parts parts_some parts_none parts_len tx_size tx_data tx_extract cut1 blockGetF index_cases)
theorem no47_dec (n : Nat) : (47 : UInt8) ∉ dec n := dec_no (by decide) n
theorem no47_addr (a : Nat) : (47 : UInt8) ∉ addrT a := by
 unfold addrT
 simp only [List.mem_append, List.mem_singleton]
 rintro ((((((h | h) | h) | h) | h) | h) | h)
 ·exact no47_dec _ h
 ·exact absurd h (by decide)
 ·exact no47_dec _ h
 ·exact absurd h (by decide)
 ·exact no47_dec _ h
 ·exact absurd h (by decide)
 ·exact no47_dec _ h
theorem blockT_eq (a b : Nat) : blockT a b = addrT a ++ 47 :: dec b := by simp [blockT]
theorem parts_block (a b : Nat) : parts 47 (blockT a b) = [addrT a, dec b] := by
 rw [blockT_eq, parts_some _ (no47_addr a), parts_none (no47_dec b)]
theorem split_unique {c : UInt8} {y y' : List UInt8} : ∀ {x x' : List UInt8}, c ∉ x → c ∉ x' → x ++ c :: y = x' ++ c :: y' → x = x' ∧ y = y'
 | [], [], _, _, h => ⟨rfl, (List.cons.inj h).2⟩
 | [], d :: x', _, h2, h => absurd (List.cons.inj h).1 (fun e => h2 (by rw [e]; exact List.mem_cons_self))
 | d :: x, [], h1, _, h => absurd (List.cons.inj h).1 (fun e => h1 (by rw [← e]; exact List.mem_cons_self))
 | d :: x, d' :: x', h1, h2, h => by
  obtain ⟨e1, e2⟩ := List.cons.inj h
  obtain ⟨e3, e4⟩ := split_unique (fun hm => h1 (List.mem_cons_of_mem _ hm)) (fun hm => h2 (List.mem_cons_of_mem _ hm)) e2
  exact ⟨by rw [e1, e3], e4⟩
theorem cut_of {c : UInt8} {x y : List UInt8} (hx : c ∉ x) : cut1 c (x ++ c :: y) = (x, y, true) := by
 unfold cut1
 rcases index_cases c (x ++ c :: y) with ⟨_, hn⟩ | ⟨o, hi, ho, hs, hn⟩
 ·exact absurd (List.mem_append.2 (.inr List.mem_cons_self)) hn
 ·obtain ⟨e1, e2⟩ := split_unique hx hn hs
  rw [hi, if_pos (by omega), Int.toNat_natCast, ← e1, ← e2]
theorem blockT_len {a b : Nat} (ha : a < 4294967296) (hb : b < 1000) : (blockT a b).length ≤ 20 := by
 have h1 := addrT_len ha
 have h2 := dec_len 2 b (by simpa using hb)
 simp only [blockT, List.length_append, List.length_singleton]
 omega
/-- A valid block, in natural numbers. -/
def okN (a b : Nat) : Prop := bok (a : Int) (b : Int) = true
theorem okN_le {a b : Nat} (h : okN a b) : a < 4294967296 ∧ b ≤ 32 := by
 obtain ⟨_, h1, _, h3, _⟩ := bok_iff.1 h
 omega
theorem bspec_yes {a b : Nat} (h : okN a b) {k : Nat} (hk : 300 ≤ k) : spec_BlockGet.f k (tx (blockT a b)) = some ((a : Int), (b : Int), true) := by
 obtain ⟨ha, hb⟩ := okN_le h
 have hl := blockT_len ha (show b < 1000 by omega)
 have hc : spec_l1Cut.f k (tx (blockT a b)) 47 = some ((parts 47 (blockT a b)).map tx) := cut_ev 47 _ (by omega) (by omega)
 unfold spec_BlockGet.f
 rw [hc, Option.bind_some, parts_block, if_pos (show ((List.map tx [addrT a, dec b]).length : Int) = 2 from rfl), if_pos (show (0 : Int) < ((List.map tx [addrT a, dec b]).length : Int) from by simp), show rdOf ByteArray.empty ([addrT a, dec b].map tx) 0 = tx (addrT a) from rfl, spec_yes ha (by omega), Option.bind_some, if_pos (show (1 : Int) < ((List.map tx [addrT a, dec b]).length : Int) from by simp), show rdOf ByteArray.empty ([addrT a, dec b].map tx) 1 = tx (dec b) from rfl, num_ev _ (by omega), Option.bind_some, num_dec (by omega)]
 simp only
 rw [if_pos trivial, ok_spec _ _ (by omega), Option.bind_some, if_pos (show bok (a : Int) (b : Int) = true from h)]
theorem bspec_no {l : List UInt8} (hl : l.length ≤ 1048576) (hn : ∀ a b, okN a b → l ≠ blockT a b) {k : Nat} (hk : 2000000 ≤ k) : spec_BlockGet.f k (tx l) = some (0, 0, false) := by
 have hc : spec_l1Cut.f k (tx l) 47 = some ((parts 47 l).map tx) := cut_ev 47 _ (by omega) (by omega)
 have hg := glue_parts 47 l
 unfold spec_BlockGet.f
 rw [hc, Option.bind_some, List.length_map]
 generalize hp : parts 47 l = xs at hg
 by_cases h2 : xs.length = 2
 ·obtain ⟨A, B, rfl⟩ : ∃ A B, xs = [A, B] := by
   match xs, h2 with
   | [A, B], _ => exact ⟨A, B, rfl⟩
  have hgl : l = A ++ 47 :: B := hg.symm
  have hAl : A.length ≤ 1048576 := by rw [hgl, List.length_append] at hl; omega
  rw [if_pos (by rw [h2]; rfl), if_pos (by rw [h2]; decide), show rdOf ByteArray.empty ([A, B].map tx) 0 = tx A from rfl]
  rcases addr_or A with ⟨a, ha, rfl⟩ | hna
  ·rw [spec_yes ha (by omega), Option.bind_some, if_pos (by rw [h2]; decide), show rdOf ByteArray.empty ([addrT a, B].map tx) 1 = tx B from rfl, num_ev _ (by omega), Option.bind_some]
   simp only
   rw [if_pos trivial, ok_spec _ _ (by omega), Option.bind_some, if_neg]
   intro hb
   obtain ⟨_, _, b0, _⟩ := bok_iff.1 hb
   obtain ⟨b, eb⟩ := Int.eq_ofNat_of_zero_le b0
   rw [eb] at hb
   refine hn a b hb ?_
   rw [hgl, blockT_eq, num_back eb]
  ·rw [spec_no (by omega) hna (by omega), Option.bind_some, if_pos (by rw [h2]; decide), show rdOf ByteArray.empty ([A, B].map tx) 1 = tx B from rfl, num_ev _ (by omega), Option.bind_some]
   simp only
   rw [if_neg (by simp)]
 ·rw [if_neg (by omega)]
theorem bimpl_yes {a b : Nat} (h : okN a b) {k : Nat} (hk : 300 ≤ k) : impl_BlockGet.f k (tx (blockT a b)) = some ((a : Int), (b : Int), true) := by
 obtain ⟨ha, hb⟩ := okN_le h
 have hl := blockT_len ha (show b < 1000 by omega)
 unfold impl_BlockGet.f blockGetF
 rw [tx_size, if_pos (by omega), tx_data, blockT_eq, cut_of (no47_addr a)]
 simp only
 rw [impl_yes ha (by omega), Option.bind_some, atoi_dec (by omega)]
 simp only
 rw [if_pos trivial, blockText_impl _ _ (by omega), Option.bind_some]
 unfold blockText
 rw [if_pos (show bok (a : Int) (b : Int) = true from h), Int.toNat_natCast, Int.toNat_natCast, ← blockT_eq]
 exact if_pos rfl
theorem bimpl_no {l : List UInt8} (hl : l.length ≤ 1048576) (hn : ∀ a b, okN a b → l ≠ blockT a b) {k : Nat} (hk : 300 ≤ k) : impl_BlockGet.f k (tx l) = some (0, 0, false) := by
 unfold impl_BlockGet.f blockGetF
 rw [tx_size, if_pos (by omega), tx_data]
 have hc1 : (cut1 47 l).1.length ≤ 1048576 := by
  unfold cut1
  split
  ·rw [List.length_take]; omega
  ·exact hl
 rcases addr_or (cut1 47 l).1 with ⟨a, ha, e⟩ | hna
 ·rw [e, impl_yes ha (by omega), Option.bind_some]
  rcases hat : Lib.atoiAll (cut1 47 l).2.1 with n | _ | _
  ·simp only
   rw [if_pos trivial, blockText_impl _ _ (by omega), Option.bind_some, if_neg]
   intro ht
   unfold blockText at ht
   by_cases hb : bok (a : Int) n = true
   ·rw [if_pos hb] at ht
    obtain ⟨_, _, b0, _⟩ := bok_iff.1 hb
    obtain ⟨b, rfl⟩ := Int.eq_ofNat_of_zero_le b0
    exact hn a b hb (tx_inj ht).symm
   ·rw [if_neg hb] at ht
    have hnil : l = [] := (tx_inj ht).symm
    rw [hnil] at e
    exact addrT_pos a e.symm
  ·rfl
  ·rfl
 ·rw [impl_no (by omega) hna (by omega), Option.bind_some]
  rcases hat : Lib.atoiAll (cut1 47 l).2.1 with n | _ | _ <;> rfl
/-- A text is a valid block's, or it is none. -/
theorem block_or (l : List UInt8) : (∃ a b, okN a b ∧ l = blockT a b) ∨ ∀ a b, okN a b → l ≠ blockT a b := by
 by_cases h : ∃ a b, okN a b ∧ l = blockT a b
 ·exact .inl h
 ·exact .inr fun a b hab e => h ⟨a, b, hab, e⟩
end Go.Proofs.YtgbdnbbfgcogjaaDoor.Tx

namespace Go.Proofs.YtgbdnbbfgcogjaaDoor.Tx
open Go.RowKit Go.Proofs.YtgbdnbbfgcogjaaDoor.Q Go.Proofs.YtgbdnbbfgcogjaaDoor.Open Go.Proofs.YtgbdnbbfgcogjaaDoor.Sq
theorem FnExactBlockGet_law : laws_FnExactBlockGet.Pure := by
 intro s _
 refine ⟨2000001, ?_⟩
 unfold laws_FnExactBlockGet.f
 by_cases h : (s.size : Int) > 1048576
 ·rw [if_pos h]
 ·rw [if_neg h]
  have hs := tx_of s
  have hl : s.data.toList.length = s.size := Array.length_toList
  generalize s.data.toList = l at hs hl
  subst hs
  rcases block_or l with ⟨a, b, hab, rfl⟩ | hn
  ·rw [bspec_yes hab (by omega), Option.bind_some, bimpl_yes hab (by omega), Option.bind_some]
   simp [laws_eqBlock.f]
  ·rw [bspec_no (by omega) hn (by omega), Option.bind_some, bimpl_no (by omega) hn (by omega), Option.bind_some]
   simp [laws_eqBlock.f]
end Go.Proofs.YtgbdnbbfgcogjaaDoor.Tx
namespace Go.Proofs.YtgbdnbbfgcogjaaDoor.Pure
open Go.Proofs.YtgbdnbbfgcogjaaDoor.Q
theorem FnExactBlockGet : laws_FnExactBlockGet.Pure := Tx.FnExactBlockGet_law
end Go.Proofs.YtgbdnbbfgcogjaaDoor.Pure

namespace Go.Proofs.YtgbdnbbfgcogjaaDoor.Td
open Go.ChangeShapes Go.WideShapes Go.ChangeAt Go.RowKit
set_option maxRecDepth 100000 in
theorem door_met2 (os : Os) (args : Array Value) : laidMetH Tryd.prog Rows.fnExactAddrGetRow.laid ((World.laidAll Tryd.prog os Rows.fnExactAddrGetRow.laid).forCall (fun _ _ => 0) ⟨#[], args, []⟩).memory := by
 rw [MakeChecks.laidMetH_plain _ _ _ (by kernel_rfl)]
 exact laidMet_laidAll _ (by kernel_rfl) (by kernel_rfl)
theorem of_laid2 {W : World} (h : laidMetH Tryd.prog Rows.fnExactAddrGetRow.laid W) : Tb.T2 W := by
 rw [MakeChecks.laidMetH_plain _ _ _ (by kernel_rfl)] at h
 have h2 : laidMet Tryd.prog (("internal/strconv.uint64pow10", Rows.laid_internal_strconv_uint64pow10) :: Rows.fnExactAddrGetRow.laid.drop 3) W := h.tail.tail
 have h4 : laidMet Tryd.prog (("strconv.ErrRange", Rows.laid_strconv_ErrRange) :: Rows.fnExactAddrGetRow.laid.drop 5) W := h2.tail.tail
 have h5 : laidMet Tryd.prog (("strconv.ErrSyntax", Rows.laid_strconv_ErrSyntax) :: Rows.fnExactAddrGetRow.laid.drop 6) W := h4.tail
 have hrow : ∀ u, Tryd.prog.typeName? 3 u = some "*errors.errorString" → u = 133 := fun u hu => typeName_ptr_named (nm := "errors.errorString") (by kernel_rfl) (by kernel_rfl) (by decide) u hu
 refine ⟨Lib.tabIs_of_head (g := 3) (t := 124) (e := 110) (n := 20) (by kernel_rfl) (by kernel_rfl) (by kernel_rfl) (by kernel_rfl) (by kernel_rfl) (by kernel_rfl) h2, ?_, ?_⟩
 ·obtain ⟨a, s, hv, _⟩ := laid_sentinel (g := 0) (ti := 61) (tp := 133) (te := 135) (ts := 9) h5 (by kernel_rfl) (by kernel_rfl) Tryd.underlying61 hrow Tryd.underlying133 Tryd.underlying135 rfl rfl Tryd.underlying9 (by kernel_rfl) (by kernel_rfl)
  exact ⟨_, World.var?_cell (by kernel_rfl) hv 0, .inr ⟨_, _, rfl⟩⟩
 ·obtain ⟨a, s, hv, _⟩ := laid_sentinel (g := 1) (ti := 61) (tp := 133) (te := 135) (ts := 9) h4 (by kernel_rfl) (by kernel_rfl) Tryd.underlying61 hrow Tryd.underlying133 Tryd.underlying135 rfl rfl Tryd.underlying9 (by kernel_rfl) (by kernel_rfl)
  exact ⟨_, World.var?_cell (by kernel_rfl) hv 0, .inr ⟨_, _, rfl⟩⟩
end Go.Proofs.YtgbdnbbfgcogjaaDoor.Td

namespace Go.Proofs.YtgbdnbbfgcogjaaDoor.fnExactBlockGet
open Go.ChangeShapes Go.WideShapes Go.ChangeAt Go.RowKit Go.Proofs.YtgbdnbbfgcogjaaDoorW.PrintWords Go.Proofs.YtgbdnbbfgcogjaaDoor.Open Go.Proofs.YtgbdnbbfgcogjaaDoor.Q
open Go.ChangeMaps (open_string shut_string)
set_option linter.unusedVariables false
theorem own : ownKnob Tryd.prog.godebug = none := by kernel_rfl
theorem laidOut : laidOutB Tryd.prog = true := by kernel_rfl
set_option maxRecDepth 100000 in
theorem lifted (os : Os) (started : os.Started) (H : Type) (enc : TypeId × Value → H) :
  ReturnsInHanded {} Tryd.checked os 7 .any (fun w args => (Rows.fnExactBlockGetSpec.pre enc Tryd.prog Tryd.f7 [] false w args ∧ laidMetH Tryd.prog Rows.fnExactBlockGetRow.laid w) ∧ sizedMet enc Tryd.prog Tryd.f7 (OpenSpec.ofChange Rows.fnExactBlockGetSpec) false w args) (Rows.fnExactBlockGetSpec.post enc Tryd.prog Tryd.f7 false true false false) := by
 refine returnsInHanded_of_change_and (C := Tryd.checked) (X := (fun w _ => laidMetH Tryd.prog Rows.fnExactBlockGetRow.laid w)) (fun _ _ _ hh h => h.of_heap hh) own started (by kernel_rfl) Tryd.func7
  (ChangeSpec.witness_shaped (enc := enc) (C := Tryd.checked) (os := os) (X := (fun w _ => laidMetH Tryd.prog Rows.fnExactBlockGetRow.laid w)) false (World.laidAll Tryd.prog os Rows.fnExactBlockGetRow.laid) #[.string ByteArray.empty] 8 (World.laidAll_os _ _ _) (World.shaped_of_ZipB (by kernel_rfl) (by kernel_rfl)) (by kernel_rfl) (by kernel_rfl) (by kernel_rfl) (Td.door_met2 os _)) ?_
 intro W base args ds gs before hval0 hW _ _ hL _
 have hT := Td.of_laid2 hL
 have hval : ∀ (j : Nat) t v, Tryd.f7.params[j]? = some t → args[j]? = some v → Value.okWide Tryd.prog W .any base t v := hval0
 have hW' := hW
 obtain ⟨p, q, hA0, hV, rfl, hfz, hnd⟩ := hW
 have hA : DataW.TrodAll enc Tryd.prog W 0 (fun _ => true) true Tryd.f7.params.toList args.toList ds p := hA0
 rw [Tryd.params7] at hA hval
 obtain ⟨v0, vs0, d0, ds0, p0, q0, hargs, rfl, rfl, h0, r0⟩ := trodAll_cons hA
 obtain ⟨rfl, rfl, rfl⟩ := trodAll_nil r0
 obtain rfl : args = #[v0] := by cases args; simp_all
 obtain ⟨rfl, rfl⟩ := trodVars_none hV
 have lt0 : ∀ x ∈ p0, x.block < W.heap.size := by obtain ⟨m, hm⟩ := h0; exact DataW.trod_lt m _ _ _ hm
 have k0 := h0
 obtain ⟨x0, K0, w0⟩ := open_arg (op9 W) h0
 obtain rfl := string_of_cells (okWide_string Tryd.underlying9 (hval 0 9 v0 rfl rfl)) K0
 obtain ⟨k, hp⟩ := Pure.FnExactBlockGet x0 w0
 refine (laws_FnExactBlockGet.calls k x0 true W hT  hp).mono ?_
 rintro e W' ⟨rfl, bel0⟩
 have bel : Below W.heap.size W W' := bel0
 exact ⟨_, rfl, _, _, _, [], _, [], hW', trodAll_mk1 (shut_bool Tryd.underlying4 _), (trodAll_cons_mk (Below.trod laidOut (by kernel_rfl) (of_decide_eq_true (by kernel_rfl)) k0 bel lt0) trodAll_mk0), rfl, bel.frame _, fun h => by cases h⟩
theorem over : Rows.fnExactBlockGetRow.holds Tryd.pinned (OpenSpec.ofChange Rows.fnExactBlockGetSpec) :=
 OpenClaim.holds_of_wide 7 Tryd.f7 rfl rfl rfl rfl rfl rfl rfl ⟨rfl, rfl, rfl, rfl, rfl⟩ rfl rfl rfl rfl rfl (by kernel_rfl) Tryd.func7 (by kernel_rfl)
  (of_decide_eq_true (by kernel_rfl)) (by unfold Func.isWrapper; first | (rw [if_pos (by decide +kernel)]; kernel_rfl) | (rw [if_neg (by decide +kernel)]; exact ⟨rfl, rfl⟩))
  (fun os started H enc _ => lifted os started H enc)
theorem proved : Rows.FnExactBlockGetCardSaid :=
 Claim7.holds_tied_plain_at .later [] [.data, .data, .data, .data, .sentinel, .sentinel, .pinned] true (true, "97c8d26cae83a2f067d11ea8752188d9b630d7cf1ff1ddf7524d710d3f062912") true
  over (fun _ h => by cases h) (by kernel_rfl) (fun _ h => by cases h) fnExactBlockGet_row_tie rfl ⟨rfl, rfl⟩ (by kernel_rfl) rfl
  (fun f fn hf hfn => by
   obtain rfl : f = 7 := Option.some.inj ((show Tryd.prog.funcNamed "loop.example/overfare/laws.FnExactBlockGet" = some 7 by kernel_rfl).symm.trans hf) |>.symm
   obtain rfl : fn = Tryd.f7 := (Option.some.inj (Tryd.func7.symm.trans hfn)).symm
   exact ⟨by kernel_rfl, fun j t ht => by
    rw [Tryd.params7] at ht
    have hm : t ∈ [9] := by simpa using Array.mem_of_getElem? ht
    have hall : ([9].all fun u => !Tryd.prog.wantsStandIn u) = true := by kernel_rfl
    exact (show Tryd.prog.wantsStandIn t = false by simpa using List.all_eq_true.1 hall t hm)⟩)
  (by kernel_rfl)
#print axioms proved
end Go.Proofs.YtgbdnbbfgcogjaaDoor.fnExactBlockGet
namespace Go.Proofs.YtgbdnbbfgcogjaaDoor
/-- The row, under a short name, for the claim. -/
theorem fnExactBlockGet_holds : Rows.FnExactBlockGetCardSaid := fnExactBlockGet.proved
end Go.Proofs.YtgbdnbbfgcogjaaDoor
