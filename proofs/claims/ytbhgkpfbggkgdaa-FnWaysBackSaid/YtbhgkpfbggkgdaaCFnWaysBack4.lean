/- The law FnWaysBack (part 4 of 7): for every input the call answers true and its arguments read afterwards as before. No condition beyond the row's own. -/
import Derived.Shelf.Spec.SlicesInsertGrow
import Derived.Sort.WalkB12
import Derived.Test.YtbhgkpfbggkgdaaCFnWaysBack3
namespace Go.Proofs.Ytbhgkpfbggkgdaa.Q
open Go.RowKit Go.Proofs.YtbhgkpfbggkgdaaW.PrintWords Go.Proofs.YtbhgkpfbggkgdaaW.PrintLast Go.Proofs.YtbhgkpfbggkgdaaW.PrintMore
attribute [local go_sem] e1z d9z e4z e3z d5z d4z e0z d8z
set_option linter.unusedVariables false
set_option linter.unusedSimpArgs false
/-- A list of ways with some more at a place. -/
def slices_Insert_Way.f (l0 : List S82) (a1 : Int) (l2 : List S82) : Option (List S82) := if ((0 ≤ a1 ∧ a1 ≤ (l0.length : Int)) ∧ l2.length = 1) ∧ l0.length < 1000000000000 then some (l0.take a1.toNat ++ l2 ++ l0.drop a1.toNat) else none
theorem slices_Insert_Way.copy (w : World) (ty : TypeId) (b o dLen dCap : Nat) (a : Addr) (sLen sCap m : Nat) (cs : List Value) (hm : Nat.min sLen dLen = m) (hn : cs.length = m * 3)
  (hsrc : ∀ j v, cs[j]? = some v → w.cell? (a.add j) = some v) (hc : ∀ j, j < cs.length → (w.cell? ⟨b, o + j, none⟩).isSome = true) (hf : ∀ j, j < cs.length → w.frozen? ⟨b, o + j, none⟩ = false) (h1 : ∀ v ∈ cs, v.oneCell' = true) :
  (Builtin.copy_ #[62, 62] ty #[.slice (some ⟨b, o, none⟩) dLen dCap, .slice (some a) sLen sCap]).run Try.prog w = .ok (goInt m) (w.setCells b o cs) := by
 have hl := run_loadCells_list (P := Try.prog) w a cs hsrc
 have hst := run_storeCells_cells (P := Try.prog) b o cs 0 w (by simpa using hc) (by simpa using hf) h1
 obtain ⟨i, hq, hz0, hi, hz2⟩ := info_parts info82
 simp [Builtin.copy_, run_underlying Try.underlying62, Builtin.lenOf, Builtin.firstCells, sizeOf, typeInfo, hq, hi, hm, ← hn, hl, hst]
theorem slices_Insert_Way.drew_cells (g : Nat) : ∀ (vs : List Value) (o : Nat) (W : World), W.drew.setCells g o vs = (W.setCells g o vs).drew
 | [], _, _ => rfl
 | v :: r, o, W => by
  rw [World.setCells, World.setCells, ← slices_Insert_Way.drew_cells g r (o + 1) (W.setCell ⟨g, o, none⟩ v)]
  rfl
/-- What lies in the row behind the shift. -/
theorem slices_Insert_Way.shifted (l0 l2 : List S82) (i n cap : Nat) (cur cur1 cur2 : Array Value) (hn : l0.length = n) (hi : i < n) (h2 : l2.length = 1) (hroom : n + 1 ≤ cap) (hcs : cur.size = cap * 3) (htake : cur.toList.take (n * 3) = Go.Proofs.Ytbhgkpfbggkgdaa.Wy.encs l0)
  (ht1 : cur1.toList = cur.toList.take ((i + 1) * 3) ++ Go.Proofs.Ytbhgkpfbggkgdaa.Wy.encs (l0.drop i) ++ cur.toList.drop ((i + 1) * 3 + (Go.Proofs.Ytbhgkpfbggkgdaa.Wy.encs (l0.drop i)).length))
  (ht2 : cur2.toList = cur1.toList.take (i * 3) ++ Go.Proofs.Ytbhgkpfbggkgdaa.Wy.encs l2 ++ cur1.toList.drop (i * 3 + (Go.Proofs.Ytbhgkpfbggkgdaa.Wy.encs l2).length)) :
  cur2.toList.take ((l0.take i ++ l2 ++ l0.drop i).length * 3) = Go.Proofs.Ytbhgkpfbggkgdaa.Wy.encs (l0.take i ++ l2 ++ l0.drop i) := by
 have hd : (Go.Proofs.Ytbhgkpfbggkgdaa.Wy.encs (l0.drop i)).length = (n - i) * 3 := by rw [Go.Proofs.Ytbhgkpfbggkgdaa.Wy.f3z, List.length_drop, hn]
 have hv : (Go.Proofs.Ytbhgkpfbggkgdaa.Wy.encs l2).length = 3 := by rw [Go.Proofs.Ytbhgkpfbggkgdaa.Wy.f3z, h2]
 have hc : cur.toList.length = cap * 3 := by rw [Array.length_toList, hcs]
 have e1 : cur1.toList.take (i * 3) = Go.Proofs.Ytbhgkpfbggkgdaa.Wy.encs (l0.take i) := by
  rw [ht1, List.append_assoc, List.take_append_of_le_length (by rw [List.length_take, hc]; omega), List.take_take, Nat.min_eq_left (by omega), ← Go.Proofs.Ytbhgkpfbggkgdaa.Wy.encs_take, ← htake, List.take_take, Nat.min_eq_left (by omega)]
 have e2 : cur1.toList.drop (i * 3 + 3) = Go.Proofs.Ytbhgkpfbggkgdaa.Wy.encs (l0.drop i) ++ cur.toList.drop ((i + 1) * 3 + (n - i) * 3) := by
  rw [ht1, hd, List.append_assoc]
  exact List.drop_left' (by rw [List.length_take, hc]; omega)
 rw [ht2, hv, e1, e2, Go.Proofs.Ytbhgkpfbggkgdaa.Wy.encs_append, Go.Proofs.Ytbhgkpfbggkgdaa.Wy.encs_append, ← List.append_assoc]
 refine List.take_left' ?_
 rw [List.length_append, List.length_append, hd, hv, Go.Proofs.Ytbhgkpfbggkgdaa.Wy.f3z, List.length_append, List.length_append, List.length_take, List.length_drop, h2, hn]
 omega
/-- What lies in the new row. -/
theorem slices_Insert_Way.grown (l0 l2 : List S82) (i n G : Nat) (Z : List Value) (cur cur1 cur2 : Array Value) (hn : l0.length = n) (hi : i < n) (h2 : l2.length = 1) (hG : n + 1 ≤ G) (hcs : cur.size = G * 3) (hcur : cur.toList = Go.Proofs.Ytbhgkpfbggkgdaa.Wy.encs (l0.take i) ++ Z)
  (ht1 : cur1.toList = cur.toList.take (i * 3) ++ Go.Proofs.Ytbhgkpfbggkgdaa.Wy.encs l2 ++ cur.toList.drop (i * 3 + (Go.Proofs.Ytbhgkpfbggkgdaa.Wy.encs l2).length))
  (ht2 : cur2.toList = cur1.toList.take ((i + 1) * 3) ++ Go.Proofs.Ytbhgkpfbggkgdaa.Wy.encs (l0.drop i) ++ cur1.toList.drop ((i + 1) * 3 + (Go.Proofs.Ytbhgkpfbggkgdaa.Wy.encs (l0.drop i)).length)) :
  cur2.toList.take ((l0.take i ++ l2 ++ l0.drop i).length * 3) = Go.Proofs.Ytbhgkpfbggkgdaa.Wy.encs (l0.take i ++ l2 ++ l0.drop i) := by
 have hd : (Go.Proofs.Ytbhgkpfbggkgdaa.Wy.encs (l0.drop i)).length = (n - i) * 3 := by rw [Go.Proofs.Ytbhgkpfbggkgdaa.Wy.f3z, List.length_drop, hn]
 have hv : (Go.Proofs.Ytbhgkpfbggkgdaa.Wy.encs l2).length = 3 := by rw [Go.Proofs.Ytbhgkpfbggkgdaa.Wy.f3z, h2]
 have ht : (Go.Proofs.Ytbhgkpfbggkgdaa.Wy.encs (l0.take i)).length = i * 3 := by rw [Go.Proofs.Ytbhgkpfbggkgdaa.Wy.f3z, List.length_take, hn, Nat.min_eq_left (by omega)]
 have e1 : cur.toList.take (i * 3) = Go.Proofs.Ytbhgkpfbggkgdaa.Wy.encs (l0.take i) := by rw [hcur]; exact List.take_left' ht
 have e2 : cur1.toList.take ((i + 1) * 3) = Go.Proofs.Ytbhgkpfbggkgdaa.Wy.encs (l0.take i) ++ Go.Proofs.Ytbhgkpfbggkgdaa.Wy.encs l2 := by
  rw [ht1, e1]
  exact List.take_left' (by rw [List.length_append, ht, hv]; omega)
 rw [ht2, e2, Go.Proofs.Ytbhgkpfbggkgdaa.Wy.encs_append, Go.Proofs.Ytbhgkpfbggkgdaa.Wy.encs_append]
 refine List.take_left' ?_
 rw [List.length_append, List.length_append, ht, hv, hd, List.length_append, List.length_append, List.length_take, List.length_drop, h2, hn]
 omega
set_option maxHeartbeats 8000000 in
set_option maxRecDepth 1000000 in
theorem slices_Insert_Way.atend (P0_ P2_ : Nat → Prop) (u9000_ u9001_ : Value) (l0 l2 : List S82) (w0 w : World) (hB : Below w0.heap.size w0 w) (ho0 : Kd.R k82 82 w w0.heap.size P0_ u9000_ l0) (ho2 : Kd.R k82 82 w w0.heap.size P2_ u9001_ l2) (h1 : l2.length = 1) (hl : l0.length < 1000000000000) :
  Calls Try.prog 97 #[u9000_, .int .i64 (l0.length : Int), u9001_] w fun e w' => ∃ v0_ : Value, e = .returned (v0_) ∧ Kd.R k82 82 w' w0.heap.size (fun k_ => ((P0_ k_ ∨ P2_ k_) ∨ w.heap.size ≤ k_)) v0_ (l0 ++ l2) ∧ Below w0.heap.size w0 w' ∧ Kept w w' (fun k_ => P0_ k_ ∨ P2_ k_) := by
 obtain ⟨vb, capv, curv, rfl, hokv, hbasev, hhv, hnv, hcmv, hcsv, htv⟩ := Go.Proofs.Ytbhgkpfbggkgdaa.Wy.R_block ho2 (by omega)
 have HO := a1z.mk (show Kd.R k82 82 w w0.heap.size (fun k_ => ((P0_ k_ ∨ P2_ k_) ∨ w.heap.size ≤ k_)) u9000_ l0 from Kd.c8z ho0 (fun k hk => .inl (.inl hk)))
 have HR := a1z.mk ((Kd.b6z ho2).2.2)
 have HS := a1z.mk hB.size
 have HB := a1z.mk hB
 have HL := a1z.mk hl
 have H1 := a1z.mk h1
 have HK := a1z.mk ho0.1
 obtain ⟨_, ho⟩ := Go.Proofs.Ytbhgkpfbggkgdaa.Wy.R_to ho0
 have hz1 : ¬ ((l2.length : Int) = 0) := by omega
 have mixed : Try.prog.follows Departure.mixedOrders = true := by kernel_rfl
 rcases ho.2 with ⟨hv0, h0⟩ | ⟨g, cap, cur, hv0, hb, hh, h1', h2', h3', h4'⟩
 ·subst hv0
  obtain rfl : l0 = [] := List.length_eq_zero_iff.1 h0
  clear ho ho0 ho2 hhv htv hl h0 hB h1
  go_enter Try.func97, Try.ntmps97
  go_wp2_with ((with_reducible refine h2z (b := .append) (xs := #[.tmp 23, .tmp 24]) rfl ?_); at_builtin; refine Kd.R_append_rows k82 (w0 := w0) w0.heap.size rfl (.tmp 23) (.tmp 24) 62 82 (.agg #[(.int .i64 0), (.int .i64 0), (.int .i64 0)]) 24 rfl Try.underlying62 info82 rfl (by decide) (by omega) _ [] l2 _ _ _ (fun k_ => ((P0_ k_ ∨ P2_ k_) ∨ w.heap.size ≤ k_)) (fun _ => False) rfl rfl ?aO ?aR (fun _ _ h => h) (fun _ h => h.elim) ?aF ?aB ?aS ?aL ?_; (case aR => exact HR.1); (case aB => exact HB.1); (case aF => exact (fun _ h => .inr h)); (case aO => exact HO.1); (case aS => exact HS.out); (case aL => have := HL.1; have := H1.out; omega); intro v105 w5 ho hb hg hat; have n0_ := a1z.mk (hb); have n1_ := a1z.mk (ho); have n2_ := a1z.mk hg; clear ho hb hg hat)
  go_ret
  exact ⟨_, rfl, n1_.out, n0_.out, Kept.of_grown n2_.out (Kept.refl _ _) (fun k hk => .inl (.inl (HK.1 k hk)))⟩
 ·subst hv0
  have hm : cap ≤ 9223372036854775807 := h2'
  clear ho ho0 ho2 hhv htv hl hB h1 h4'
  go_enter Try.func97, Try.ntmps97
  go_wp2_with ((with_reducible refine h2z (b := .append) (xs := #[.tmp 23, .tmp 24]) rfl ?_); at_builtin; refine Kd.R_append_rows k82 (w0 := w0) w0.heap.size rfl (.tmp 23) (.tmp 24) 62 82 (.agg #[(.int .i64 0), (.int .i64 0), (.int .i64 0)]) 24 rfl Try.underlying62 info82 rfl (by decide) (by omega) _ l0 l2 _ _ _ (fun k_ => ((P0_ k_ ∨ P2_ k_) ∨ w.heap.size ≤ k_)) (fun _ => False) rfl rfl ?aO ?aR (fun _ _ h => h) (fun _ h => h.elim) ?aF ?aB ?aS ?aL ?_; (case aR => exact HR.1); (case aB => exact HB.1); (case aF => exact (fun _ h => .inr h)); (case aO => exact HO.1); (case aS => exact HS.out); (case aL => have := HL.1; have := H1.out; omega); intro v105 w5 ho hb hg hat; have n0_ := a1z.mk (hb); have n1_ := a1z.mk (ho); have n2_ := a1z.mk hg; clear ho hb hg hat)
  all_goals go_ret
  all_goals exact ⟨_, rfl, n1_.out, n0_.out, Kept.of_grown n2_.out (Kept.refl _ _) (fun k hk => .inl (.inl (HK.1 k hk)))⟩
set_option maxHeartbeats 8000000 in
set_option maxRecDepth 1000000 in
theorem slices_Insert_Way.shift (P0_ P2_ : Nat → Prop) (g cap i n vb capv : Nat) (cur curv : Array Value) (l0 l2 : List S82) (w0 w : World) (hB : Below w0.heap.size w0 w) (hn : l0.length = n) (hi : i < n) (h1 : l2.length = 1) (hne : vb ≠ g) (hok : P0_ g) (hbase : w0.heap.size ≤ g) (hh : w.heap[g]? = some (.cells cur 82 (0, 0))) (hcm : cap ≤ maxLen) (hcs : cur.size = cap * 3) (htake : cur.toList.take (n * 3) = Go.Proofs.Ytbhgkpfbggkgdaa.Wy.encs l0) (hroom : n + 1 ≤ cap)
  (hhv : w.heap[vb]? = some (.cells curv 82 (0, 0))) (hcsv : curv.size = capv * 3) (hcv : 1 ≤ capv) (htv : curv.toList.take 3 = Go.Proofs.Ytbhgkpfbggkgdaa.Wy.encs l2) :
  Calls Try.prog 97 #[.slice (some ⟨g, 0, none⟩) n cap, .int .i64 (i : Int), .slice (some ⟨vb, 0, none⟩) 1 capv] w fun e w' => ∃ v0_ : Value, e = .returned (v0_) ∧ Kd.R k82 82 w' w0.heap.size (fun k_ => ((P0_ k_ ∨ P2_ k_) ∨ w.heap.size ≤ k_)) v0_ (l0.take i ++ l2 ++ l0.drop i) ∧ Below w0.heap.size w0 w' ∧ Kept w w' (fun k_ => P0_ k_ ∨ P2_ k_) := by
 have hv3 : (Go.Proofs.Ytbhgkpfbggkgdaa.Wy.encs l2).length = 3 := by rw [Go.Proofs.Ytbhgkpfbggkgdaa.Wy.f3z, h1]
 have hd3 : (Go.Proofs.Ytbhgkpfbggkgdaa.Wy.encs (l0.drop i)).length = (n - i) * 3 := by rw [Go.Proofs.Ytbhgkpfbggkgdaa.Wy.f3z, List.length_drop, hn]
 have hm : cap ≤ 9223372036854775807 := hcm
 obtain ⟨VS, hVS⟩ : ∃ VS, VS = Go.Proofs.Ytbhgkpfbggkgdaa.Wy.encs l2 := ⟨_, rfl⟩
 obtain ⟨DS, hDS⟩ : ∃ DS, DS = Go.Proofs.Ytbhgkpfbggkgdaa.Wy.encs (l0.drop i) := ⟨_, rfl⟩
 have hcell : ∀ q, w.cell? ⟨g, q, none⟩ = cur[q]? := fun q => a8z hh q
 have hcellv : ∀ q, w.cell? ⟨vb, q, none⟩ = curv[q]? := fun q => a8z hhv q
 have hds : ∀ j v, DS[j]? = some v → w.cell? ⟨g, i * 3 + j, none⟩ = some v := by
  intro j v hj
  have hl := (List.getElem?_eq_some_iff.1 hj).1
  rw [hDS, hd3] at hl
  rw [hDS, ← Go.Proofs.Ytbhgkpfbggkgdaa.Wy.encs_drop, List.getElem?_drop, ← htake, List.getElem?_take, if_pos (by omega), Array.getElem?_toList] at hj
  rw [hcell]
  exact hj
 have hvs : ∀ j v, VS[j]? = some v → w.cell? ⟨vb, 0 + j, none⟩ = some v := by
  intro j v hj
  have hl := (List.getElem?_eq_some_iff.1 hj).1
  rw [hVS, hv3] at hl
  rw [hVS, ← htv, List.getElem?_take, if_pos hl, Array.getElem?_toList] at hj
  rw [hcellv, Nat.zero_add]
  exact hj
 have hov : ∀ lb cb, (callFunc 115 #[.slice (some ⟨vb, 0, none⟩) 1 capv, .slice (some ⟨g, (i + 1) * 3, none⟩) lb cb]).run Try.prog w = .ok (.value (.bool false)) w := fun lb cb => by
  rw [run_callFunc_extern Try.func115 (by kernel_rfl) (by kernel_rfl) (by kernel_rfl) (e := Extern.SlicesOverlaps.overlaps #[62, 62] #[4]) (by kernel_rfl),
   Lib.run_overlaps_apart w 62 4 82 Try.underlying62 3 Try.sizeOf82 ⟨vb, 0, none⟩ ⟨g, (i + 1) * 3, none⟩ 1 capv lb cb hne 82 82 curv.size cur.size (by simp [World.shape?, hhv]) (by simp [World.shape?, hh]) (by omega) (a9z hhv _) (a9z hhv _)]
  rfl
 -- the two copies
 obtain ⟨cur1, hh1, hs1, ht1⟩ := g3z (e := 82) DS ((i + 1) * 3) w.drew cur hh (by rw [hDS, hd3]; omega)
 obtain ⟨W1, hW1⟩ : ∃ W1, W1 = w.drew.setCells g ((i + 1) * 3) DS := ⟨_, rfl⟩
 rw [← hW1] at hh1
 have hcp1 : ∀ ty dc sc, (Builtin.copy_ #[62, 62] ty #[.slice (some ⟨g, (i + 1) * 3, none⟩) (n - i) dc, .slice (some ⟨g, i * 3, none⟩) (n + 1 - i) sc]).run Try.prog w.drew = .ok (goInt (n - i : Nat)) W1 := fun ty dc sc => by
  rw [hW1]
  exact slices_Insert_Way.copy w.drew ty g ((i + 1) * 3) (n - i) dc ⟨g, i * 3, none⟩ (n + 1 - i) sc (n - i) DS (by simp only [Nat.min_def]; split <;> omega) (by rw [hDS, hd3])
   (fun j v hj => by rw [Addr.add_lit]; exact hds j v hj)
   (fun j hj => by rw [hDS, hd3] at hj; show (w.cell? _).isSome = true; rw [hcell, Array.getElem?_eq_getElem (by omega)]; rfl) (fun j hj => a9z hh _) (by rw [hDS]; exact Go.Proofs.Ytbhgkpfbggkgdaa.Wy.encs_cell _)
 obtain ⟨cur2, hh2, hs2, ht2⟩ := g3z (e := 82) VS (i * 3) W1 cur1 hh1 (by rw [hVS, hv3]; omega)
 have hcp2 : ∀ (W : World), (∀ x, W.cell? x = W1.cell? x) → (∀ x, W.frozen? x = W1.frozen? x) → ∀ ty dc, (Builtin.copy_ #[62, 62] ty #[.slice (some ⟨g, i * 3, none⟩) (n + 1 - i) dc, .slice (some ⟨vb, 0, none⟩) 1 capv]).run Try.prog W = .ok (goInt (1 : Nat)) (W.setCells g (i * 3) VS) := fun W hWc hWf ty dc =>
  slices_Insert_Way.copy W ty g (i * 3) (n + 1 - i) dc ⟨vb, 0, none⟩ 1 capv 1 VS (by simp only [Nat.min_def]; split <;> omega) (by rw [hVS, hv3])
   (fun j v hj => by
    rw [Addr.add_lit, hWc, hW1, World.cell?_setCells_out g _ _ _ _ (fun h _ => absurd h hne)]
    exact hvs j v hj)
   (fun j hj => by rw [hVS, hv3] at hj; rw [hWc, a8z hh1, Array.getElem?_eq_getElem (by omega)]; rfl) (fun j hj => by rw [hWf]; exact a9z hh1 _) (by rw [hVS]; exact Go.Proofs.Ytbhgkpfbggkgdaa.Wy.encs_cell _)
 -- what comes of it
 obtain ⟨a1, a2, a3, a4⟩ := g1z g DS ((i + 1) * 3) w.drew
 obtain ⟨b1, b2, b3, b4⟩ := g1z g VS (i * 3) W1
 rw [← hW1] at a1 a2 a3 a4
 have hfar : ∀ q, q ≠ g → (W1.setCells g (i * 3) VS).heap[q]? = w.heap[q]? := fun q hq => by
  rw [g0z _ _ q hq, hW1, g0z _ _ q hq]
  rfl
 have X3 := a1z.mk (show Kept w (W1.setCells g (i * 3) VS) (fun k_ => P0_ k_ ∨ P2_ k_) from ⟨by rw [b4, a4]; exact Nat.le_refl _, fun q hq hnq => hfar q (fun e => hnq (.inl (by rw [e]; exact hok)))⟩)
 have X2 := a1z.mk (show Below w0.heap.size w0 (W1.setCells g (i * 3) VS) from ⟨by rw [b1, a1]; exact hB.os, by rw [b2, a2]; exact hB.tape, by rw [b3, a3]; exact hB.output, by rw [b4, a4]; exact hB.size, fun q hq => (hfar q (by omega)).trans (hB.block q hq)⟩)
 have hlen : (l0.take i ++ l2 ++ l0.drop i).length = n + 1 := by rw [List.length_append, List.length_append, List.length_take, List.length_drop, h1, hn]; omega
 have hrow : Kd.R k82 82 (W1.setCells g (i * 3) VS) w0.heap.size (fun k_ => ((P0_ k_ ∨ P2_ k_) ∨ w.heap.size ≤ k_)) (.slice (some ⟨g, 0, none⟩) (l0.take i ++ l2 ++ l0.drop i).length cap) (l0.take i ++ l2 ++ l0.drop i) :=
  Go.Proofs.Ytbhgkpfbggkgdaa.Wy.R_mk (.inl (.inl hok)) hbase hh2 (by omega) hcm (by omega) (slices_Insert_Way.shifted l0 l2 i n cap cur cur1 cur2 hn hi h1 hroom hcs htake (by rw [ht1, hDS]) (by rw [ht2, hVS]))
 rw [hlen] at hrow
 have X1 := a1z.mk hrow
 have hz2 : ¬ ((i : Int) = (n : Int)) := by omega
 have hw1 : IntKind.i64.wrap ((i : Int) + 1) = (i : Int) + 1 := by rw [IntKind.wrap_i64]; omega
 have hw2 : IntKind.i64.wrap ((n : Int) + 1) = (n : Int) + 1 := by rw [IntKind.wrap_i64]; omega
 have hb1 : (0 : Int) ≤ (i : Int) + 1 := by omega
 have hb0 : (0 : Int) ≤ (n : Int) + 1 := by omega
 have hin : i ≤ n := by omega
 have htn : ((i : Int) + 1).toNat = i + 1 := by omega
 have htn2 : ((n : Int) + 1).toNat = n + 1 := by omega
 have hb2 : ¬ (cap = i + 1) := by omega
 have hb3 : (i : Int) ≤ (n : Int) + 1 := by omega
 have hb4 : ¬ (cap = i) := by omega
 have hb5 : (n : Int) + 1 ≤ (cap : Int) := by omega
 have hb6 : ¬ ((cap : Int) < (n : Int) + 1) := by omega
 have hb7 : (i : Int) + 1 ≤ (n : Int) + 1 := by omega
 have mixed : Try.prog.follows Departure.mixedOrders = true := by kernel_rfl
 clear hlen hrow hfar a1 a2 a3 a4 b1 b2 b3 b4 hh2 hs2 ht2 hh1 hs1 ht1 hcellv hcell hvs hds hd3 hv3 hVS hDS htv hcsv hhv htake hcs hh hB hn h1
 clear hW1
 go_enter Try.func97, Try.ntmps97
 go_wp2_with (simp only [hov])
 go_region_law_o (refine step_copy_runI rfl _ _ 62 62 rfl _ _ (by simp [Act.eval, Act.put]) (by simp [Act.eval, Act.put]) (hcp1 _ _ _) ?_)
 go_wp2_with (at_builtin; refine wpList_copy_runI _ rfl _ _ 62 62 rfl _ _ rfl rfl (hcp2 _ (fun _ => rfl) (fun _ => rfl) _ _) ?_)
 go_ret
 exact ⟨_, rfl, X1.out, X2.out, X3.out⟩
set_option maxHeartbeats 8000000 in
set_option maxRecDepth 1000000 in
theorem slices_Insert_Way.grow (P0_ P2_ : Nat → Prop) (g cap i n vb capv : Nat) (cur curv : Array Value) (l0 l2 : List S82) (w0 w : World) (hB : Below w0.heap.size w0 w) (hn : l0.length = n) (hi : i < n) (h1 : l2.length = 1) (hnl : n < 1000000000000) (hh : w.heap[g]? = some (.cells cur 82 (0, 0))) (hcm : cap ≤ maxLen) (hcs : cur.size = cap * 3) (htake : cur.toList.take (n * 3) = Go.Proofs.Ytbhgkpfbggkgdaa.Wy.encs l0) (hnc : n ≤ cap) (hroom : cap < n + 1)
  (hhv : w.heap[vb]? = some (.cells curv 82 (0, 0))) (htv : curv.toList.take 3 = Go.Proofs.Ytbhgkpfbggkgdaa.Wy.encs l2) :
  Calls Try.prog 97 #[.slice (some ⟨g, 0, none⟩) n cap, .int .i64 (i : Int), .slice (some ⟨vb, 0, none⟩) 1 capv] w fun e w' => ∃ v0_ : Value, e = .returned (v0_) ∧ Kd.R k82 82 w' w0.heap.size (fun k_ => ((P0_ k_ ∨ P2_ k_) ∨ w.heap.size ≤ k_)) v0_ (l0.take i ++ l2 ++ l0.drop i) ∧ Below w0.heap.size w0 w' ∧ Kept w w' (fun k_ => P0_ k_ ∨ P2_ k_) := by
 have hv3 : (Go.Proofs.Ytbhgkpfbggkgdaa.Wy.encs l2).length = 3 := by rw [Go.Proofs.Ytbhgkpfbggkgdaa.Wy.f3z, h1]
 have hd3 : (Go.Proofs.Ytbhgkpfbggkgdaa.Wy.encs (l0.drop i)).length = (n - i) * 3 := by rw [Go.Proofs.Ytbhgkpfbggkgdaa.Wy.f3z, List.length_drop, hn]
 have ht3 : (Go.Proofs.Ytbhgkpfbggkgdaa.Wy.encs (l0.take i)).length = i * 3 := by rw [Go.Proofs.Ytbhgkpfbggkgdaa.Wy.f3z, List.length_take, hn, Nat.min_eq_left (by omega)]
 have hm : cap ≤ 9223372036854775807 := hcm
 obtain ⟨VS, hVS⟩ : ∃ VS, VS = Go.Proofs.Ytbhgkpfbggkgdaa.Wy.encs l2 := ⟨_, rfl⟩
 obtain ⟨DS, hDS⟩ : ∃ DS, DS = Go.Proofs.Ytbhgkpfbggkgdaa.Wy.encs (l0.drop i) := ⟨_, rfl⟩
 obtain ⟨TS, hTS⟩ : ∃ TS, TS = Go.Proofs.Ytbhgkpfbggkgdaa.Wy.encs (l0.take i) := ⟨_, rfl⟩
 have hcell : ∀ q, w.cell? ⟨g, q, none⟩ = cur[q]? := fun q => a8z hh q
 have hcellv : ∀ q, w.cell? ⟨vb, q, none⟩ = curv[q]? := fun q => a8z hhv q
 have hgw : g < w.heap.size := f1z hh
 have hvw : vb < w.heap.size := f1z hhv
 have hds : ∀ j v, DS[j]? = some v → w.cell? ⟨g, i * 3 + j, none⟩ = some v := by
  intro j v hj
  have hl := (List.getElem?_eq_some_iff.1 hj).1
  rw [hDS, hd3] at hl
  rw [hDS, ← Go.Proofs.Ytbhgkpfbggkgdaa.Wy.encs_drop, List.getElem?_drop, ← htake, List.getElem?_take, if_pos (by omega), Array.getElem?_toList] at hj
  rw [hcell]
  exact hj
 have hts : ∀ j v, TS[j]? = some v → w.cell? ⟨g, 0 + j, none⟩ = some v := by
  intro j v hj
  have hl := (List.getElem?_eq_some_iff.1 hj).1
  rw [hTS, ht3] at hl
  rw [hTS, ← Go.Proofs.Ytbhgkpfbggkgdaa.Wy.encs_take, List.getElem?_take, if_pos (by omega), ← htake, List.getElem?_take, if_pos (by omega), Array.getElem?_toList] at hj
  rw [hcell, Nat.zero_add]
  exact hj
 have hvs : ∀ j v, VS[j]? = some v → w.cell? ⟨vb, 0 + j, none⟩ = some v := by
  intro j v hj
  have hl := (List.getElem?_eq_some_iff.1 hj).1
  rw [hVS, hv3] at hl
  rw [hVS, ← htv, List.getElem?_take, if_pos hl, Array.getElem?_toList] at hj
  rw [hcellv, Nat.zero_add]
  exact hj
 obtain ⟨i0, hi0, hz0, hz1, hz2⟩ := info_parts info82
 have hik : i + (n + 1 - i) = n + 1 := by omega
 have hkk : (n : Int) + 1 - (i : Int) = ((n + 1 - i : Nat) : Int) := by omega
 have hold : (Builtin.firstCells i0.size i (.slice (some ⟨g, 0, none⟩) i cap)).run Try.prog w.drew = .ok TS.toArray w.drew := by
  rw [hz1]
  exact run_firstCells_some w.drew 3 i ⟨g, 0, none⟩ i cap TS (by rw [hTS, ht3]) (fun j v hj => by rw [Addr.add_lit]; exact hts j v hj)
 have hrz : ∀ ty, (Builtin.append_ #[62, 3] ty #[.slice (some ⟨g, 0, none⟩) i cap, .int .i64 ((n : Int) + 1 - (i : Int))]).run Try.prog w =
   .ok (.slice (some ⟨w.heap.size, 0, none⟩) (n + 1) (grownCap w (n + 1) cap 82)) (w.drew.alloc (.cells (TS.toArray ++ Builtin.zeroCells (Value.agg #[.int .i64 0, .int .i64 0, .int .i64 0]).cells (n + 1 - i) ++ Builtin.zeroCells (Value.agg #[.int .i64 0, .int .i64 0, .int .i64 0]).cells (grownCap w (n + 1) cap 82 - (n + 1))) 82)) := fun ty => by
  have h := Lib.run_append_grow_zeros w 62 3 ty 82 i0 _ .i64 .i64 Try.underlying62 Try.underlying3 hi0 hz0 (some ⟨g, 0, none⟩) i cap TS hold (n + 1 - i) (by omega) (by omega) (by omega) (by omega) (by rw [hz2]; omega) (by rw [hz2, hik]; exact growslice_fits hroom (by omega))
  rw [hik] at h
  rw [hkk]
  exact h
 obtain ⟨G, hG⟩ : ∃ G, G = grownCap w (n + 1) cap 82 := ⟨_, rfl⟩
 obtain ⟨ROW, hROW⟩ : ∃ ROW : Array Value, ROW = TS.toArray ++ Builtin.zeroCells (Value.agg #[.int .i64 0, .int .i64 0, .int .i64 0]).cells (n + 1 - i) ++ Builtin.zeroCells (Value.agg #[.int .i64 0, .int .i64 0, .int .i64 0]).cells (G - (n + 1)) := ⟨_, rfl⟩
 rw [← hG] at hrz
 rw [← hROW] at hrz
 have hGn : n + 1 ≤ G := by rw [hG]; exact grownCap_ge w _ _ _
 have hGm : G ≤ maxLen := by rw [hG]; exact grownCap_le_maxLen w (n + 1) cap 82 (by unfold maxLen; omega)
 have hG63 : G ≤ 9223372036854775807 := hGm
 have hRs : ROW.size = G * 3 := by
  rw [hROW]
  simp [Builtin.zeroCells, Value.cells, hTS, ht3]
  omega
 obtain ⟨Z, hRl⟩ : ∃ Z, ROW.toList = TS ++ Z := ⟨(Builtin.zeroCells (Value.agg #[.int .i64 0, .int .i64 0, .int .i64 0]).cells (n + 1 - i)).toList ++ (Builtin.zeroCells (Value.agg #[.int .i64 0, .int .i64 0, .int .i64 0]).cells (G - (n + 1))).toList, by rw [hROW, Array.toList_append, Array.toList_append, List.append_assoc]⟩
 obtain ⟨W1, hW1⟩ : ∃ W1, W1 = w.drew.alloc (.cells ROW 82) := ⟨_, rfl⟩
 rw [← hW1] at hrz
 have hh0 : W1.heap[w.heap.size]? = some (.cells ROW 82 (0, 0)) := by rw [hW1]; exact heap_alloc_new w.drew _
 have hOb : ∀ j v, w.cell? ⟨g, j, none⟩ = some v → W1.cell? ⟨g, j, none⟩ = some v := fun j v h => by rw [hW1, World.cell?_alloc_past (w := w.drew) _ g j hgw]; exact h
 have hOv : ∀ j v, w.cell? ⟨vb, j, none⟩ = some v → W1.cell? ⟨vb, j, none⟩ = some v := fun j v h => by rw [hW1, World.cell?_alloc_past (w := w.drew) _ vb j hvw]; exact h
 obtain ⟨cur1, hh1, hs1, ht1⟩ := g3z (e := 82) VS (i * 3) W1 ROW hh0 (by rw [hVS, hv3]; omega)
 have hcpA : ∀ (W : World), (∀ x, W.cell? x = W1.cell? x) → (∀ x, W.frozen? x = W1.frozen? x) → ∀ ty dc, (Builtin.copy_ #[62, 62] ty #[.slice (some ⟨w.heap.size, i * 3, none⟩) (n + 1 - i) dc, .slice (some ⟨vb, 0, none⟩) 1 capv]).run Try.prog W = .ok (goInt (1 : Nat)) (W.setCells w.heap.size (i * 3) VS) := fun W hWc hWf ty dc =>
  slices_Insert_Way.copy W ty w.heap.size (i * 3) (n + 1 - i) dc ⟨vb, 0, none⟩ 1 capv 1 VS (by simp only [Nat.min_def]; split <;> omega) (by rw [hVS, hv3])
   (fun j v hj => by rw [Addr.add_lit, hWc]; exact hOv _ v (hvs j v hj))
   (fun j hj => by rw [hVS, hv3] at hj; rw [hWc, a8z hh0, Array.getElem?_eq_getElem (by omega)]; rfl) (fun j hj => by rw [hWf]; exact a9z hh0 _) (by rw [hVS]; exact Go.Proofs.Ytbhgkpfbggkgdaa.Wy.encs_cell _)
 obtain ⟨cur2, hh2, hs2, ht2⟩ := g3z (e := 82) DS ((i + 1) * 3) (W1.setCells w.heap.size (i * 3) VS) cur1 hh1 (by rw [hDS, hd3]; omega)
 have hgN : g ≠ w.heap.size := by omega
 have hcpB : ∀ (W : World), (∀ x, W.cell? x = (W1.setCells w.heap.size (i * 3) VS).cell? x) → (∀ x, W.frozen? x = (W1.setCells w.heap.size (i * 3) VS).frozen? x) → ∀ ty dc sc, (Builtin.copy_ #[62, 62] ty #[.slice (some ⟨w.heap.size, (i + 1) * 3, none⟩) (n - i) dc, .slice (some ⟨g, i * 3, none⟩) (n - i) sc]).run Try.prog W = .ok (goInt (n - i : Nat)) (W.setCells w.heap.size ((i + 1) * 3) DS) := fun W hWc hWf ty dc sc =>
  slices_Insert_Way.copy W ty w.heap.size ((i + 1) * 3) (n - i) dc ⟨g, i * 3, none⟩ (n - i) sc (n - i) DS (by simp) (by rw [hDS, hd3])
   (fun j v hj => by
    rw [Addr.add_lit, hWc, World.cell?_setCells_out _ _ _ _ _ (fun h _ => absurd h hgN)]
    exact hOb _ v (hds j v hj))
   (fun j hj => by rw [hDS, hd3] at hj; rw [hWc, a8z hh1, Array.getElem?_eq_getElem (by omega)]; rfl) (fun j hj => by rw [hWf]; exact a9z hh1 _) (by rw [hDS]; exact Go.Proofs.Ytbhgkpfbggkgdaa.Wy.encs_cell _)
 -- what comes of it
 obtain ⟨a1, a2, a3, a4⟩ := g1z w.heap.size VS (i * 3) W1
 obtain ⟨b1, b2, b3, b4⟩ := g1z w.heap.size DS ((i + 1) * 3) (W1.setCells w.heap.size (i * 3) VS)
 have hbW : Below w.heap.size w W1 := by rw [hW1]; exact a3z (below_drew (Below.refl _ _)) _
 have hbel : Below w.heap.size w ((W1.setCells w.heap.size (i * 3) VS).setCells w.heap.size ((i + 1) * 3) DS) :=
  ⟨by rw [b1, a1]; exact hbW.os, by rw [b2, a2]; exact hbW.tape, by rw [b3, a3]; exact hbW.output, by rw [b4, a4]; exact hbW.size, fun q hq => by
   rw [g0z _ _ q (by omega), g0z _ _ q (by omega)]
   exact hbW.block q hq⟩
 have hlen : (l0.take i ++ l2 ++ l0.drop i).length = n + 1 := by rw [List.length_append, List.length_append, List.length_take, List.length_drop, h1, hn]; omega
 have hrow : Kd.R k82 82 ((W1.setCells w.heap.size (i * 3) VS).setCells w.heap.size ((i + 1) * 3) DS) w0.heap.size (fun k_ => ((P0_ k_ ∨ P2_ k_) ∨ w.heap.size ≤ k_)) (.slice (some ⟨w.heap.size, 0, none⟩) (l0.take i ++ l2 ++ l0.drop i).length G) (l0.take i ++ l2 ++ l0.drop i) :=
  Go.Proofs.Ytbhgkpfbggkgdaa.Wy.R_mk (.inr (Nat.le_refl _)) hB.size hh2 (by omega) hGm (by omega) (slices_Insert_Way.grown l0 l2 i n G Z ROW cur1 cur2 hn hi h1 hGn hRs (by rw [hRl, hTS]) (by rw [ht1, hVS]) (by rw [ht2, hDS]))
 rw [hlen] at hrow
 have X1 := a1z.mk hrow
 have X2 := a1z.mk (below_then hB hB.size hbel)
 have X3 := a1z.mk (Kept.of_below hbel (fun k_ => P0_ k_ ∨ P2_ k_))
 have hz2' : ¬ ((i : Int) = (n : Int)) := by omega
 have hz3 : (cap : Int) < (n : Int) + 1 := by omega
 have hw1 : IntKind.i64.wrap ((i : Int) + 1) = (i : Int) + 1 := by rw [IntKind.wrap_i64]; omega
 have hw2 : IntKind.i64.wrap ((n : Int) + 1) = (n : Int) + 1 := by rw [IntKind.wrap_i64]; omega
 have hb1 : (0 : Int) ≤ (i : Int) + 1 := by omega
 have hin : i ≤ n := by omega
 have htn : ((i : Int) + 1).toNat = i + 1 := by omega
 have hGi : ¬ (G = i) := by omega
 have hGim : ¬ (G = i + 1) := by omega
 have hci : ¬ (cap = i) := by omega
 have hb3 : (i : Int) ≤ (n : Int) + 1 := by omega
 have hb7 : (i : Int) + 1 ≤ (n : Int) + 1 := by omega
 have mixed : Try.prog.follows Departure.mixedOrders = true := by kernel_rfl
 clear hlen hrow hbel hbW a1 a2 a3 a4 b1 b2 b3 b4 hh2 hs2 ht2 hh1 hs1 ht1 hh0 hRs hRl hROW hG hold hkk hik hOb hOv hcellv hcell hvs hds hts hd3 hv3 ht3 hVS hDS hTS htv hhv htake hcs hh hB hn h1
 subst hW1
 have hE1 : ∀ x, ((w.alloc (.cells ROW 82)).drew).cell? x = (w.drew.alloc (.cells ROW 82)).cell? x := fun x => rfl
 have hE2 : ∀ x, ((w.alloc (.cells ROW 82)).drew).frozen? x = (w.drew.alloc (.cells ROW 82)).frozen? x := fun x => rfl
 have hF1 : ∀ x, (((w.alloc (.cells ROW 82)).drew.setCells w.heap.size (i * 3) VS).drew).cell? x = ((w.drew.alloc (.cells ROW 82)).setCells w.heap.size (i * 3) VS).cell? x := fun x => rfl
 have hF2 : ∀ x, (((w.alloc (.cells ROW 82)).drew.setCells w.heap.size (i * 3) VS).drew).frozen? x = ((w.drew.alloc (.cells ROW 82)).setCells w.heap.size (i * 3) VS).frozen? x := fun x => rfl
 go_enter Try.func97, Try.ntmps97
 go_wp2_with (first
  | (at_builtin; refine Lib.wpList_append_run _ rfl _ _ _ _ rfl _ _ rfl rfl _ _ (hrz _) ?_)
  | (at_builtin; refine wpList_copy_runI _ rfl _ _ 62 62 rfl _ _ rfl rfl (hcpA _ hE1 hE2 _ _) ?_)
  | (at_builtin; refine wpList_copy_runI _ rfl _ _ 62 62 rfl _ _ rfl rfl (hcpB _ (fun _ => rfl) (fun _ => rfl) _ _ _) ?_))
 go_region_law_o (refine step_copy_runI rfl _ _ 62 62 rfl (.slice (some ⟨w.heap.size, (i + 1) * 3, none⟩) (n - i) (G - (i + 1))) (.slice (some ⟨g, i * 3, none⟩) (n - i) (cap - i)) (by simp [Act.eval, Act.put]) (by simp [Act.eval, Act.put]) (hcpB _ hF1 hF2 3 (G - (i + 1)) (cap - i)) ?_)
 go_wp2
 go_ret
 refine ⟨_, rfl, ?_⟩
 have e : (((w.alloc (.cells ROW 82)).drew.setCells w.heap.size (i * 3) VS).drew).setCells w.heap.size ((i + 1) * 3) DS = (((w.drew.alloc (.cells ROW 82)).setCells w.heap.size (i * 3) VS).setCells w.heap.size ((i + 1) * 3) DS).drew := slices_Insert_Way.drew_cells _ _ _ _
 rw [e]
 exact ⟨Kd.b1z X1.out, below_drew X2.out, X3.out.drew⟩
theorem slices_Insert_Way.calls (P0_ : Nat → Prop) (u9000_ : Value) (l0 : List S82) (a1 : Int) (P2_ : Nat → Prop) (u9001_ : Value) (l2 : List S82) (r : List S82) (w0 w : World) (hB : Below w0.heap.size w0 w) (ho0 : Kd.R k82 82 w w0.heap.size P0_ u9000_ l0) (hp0_2 : ∀ k_, P0_ k_ → ¬ P2_ k_) (ho2 : Kd.R k82 82 w w0.heap.size P2_ u9001_ l2) (hp2_0 : ∀ k_, P2_ k_ → ¬ P0_ k_) (h : slices_Insert_Way.f l0 a1 l2 = some r) :
  Calls Try.prog 97 #[u9000_, .int .i64 a1, u9001_] w fun e w' => ∃ v0_ : Value, e = .returned (v0_) ∧ Kd.R k82 82 w' w0.heap.size (fun k_ => ((P0_ k_ ∨ P2_ k_) ∨ w.heap.size ≤ k_)) v0_ r ∧ Below w0.heap.size w0 w' ∧ Kept w w' (fun k_ => P0_ k_ ∨ P2_ k_) := by
 unfold slices_Insert_Way.f at h
 by_cases hb : ((0 ≤ a1 ∧ a1 ≤ (l0.length : Int)) ∧ l2.length = 1) ∧ l0.length < 1000000000000
 ·rw [if_pos hb] at h
  obtain rfl := Option.some.inj h
  obtain ⟨⟨⟨h0, h3⟩, h1⟩, hl⟩ := hb
  obtain ⟨i, rfl⟩ := Int.eq_ofNat_of_zero_le h0
  rw [Int.toNat_natCast]
  by_cases hi : i = l0.length
  ·subst hi
   rw [List.take_length, List.drop_length, List.append_nil]
   exact slices_Insert_Way.atend P0_ P2_ u9000_ u9001_ l0 l2 w0 w hB ho0 ho2 h1 hl
  ·obtain ⟨g, cap, cur, rfl, hok, hbase, hh, hnc, hcm, hcs, htake⟩ := Go.Proofs.Ytbhgkpfbggkgdaa.Wy.R_block ho0 (by omega)
   obtain ⟨vb, capv, curv, rfl, hokv, hbasev, hhv, hnv, hcmv, hcsv, htv⟩ := Go.Proofs.Ytbhgkpfbggkgdaa.Wy.R_block ho2 (by omega)
   rw [h1] at hnv htv ⊢
   by_cases hr : l0.length + 1 ≤ cap
   ·exact slices_Insert_Way.shift P0_ P2_ g cap i l0.length vb capv cur curv l0 l2 w0 w hB rfl (by omega) h1 (fun e => hp0_2 g hok (by rw [← e]; exact hokv)) hok hbase hh hcm hcs htake hr hhv hcsv hnv htv
   ·exact slices_Insert_Way.grow P0_ P2_ g cap i l0.length vb capv cur curv l0 l2 w0 w hB rfl (by omega) h1 hl hh hcm hcs htake hnc (by omega) hhv htv
 ·rw [if_neg hb] at h
  exact absurd h (by simp)
end Go.Proofs.Ytbhgkpfbggkgdaa.Q

namespace Go.Proofs.Ytbhgkpfbggkgdaa.Q
open Go.RowKit Go.Proofs.YtbhgkpfbggkgdaaW.PrintWords Go.Proofs.YtbhgkpfbggkgdaaW.PrintLast Go.Proofs.YtbhgkpfbggkgdaaW.PrintMore
attribute [local go_sem] e1z d9z e4z e3z d5z d4z e0z d8z
set_option linter.unusedVariables false
set_option linter.unusedSimpArgs false
def impl_WaysPut.j0 : Nat → List (S82) → List (S82) → Option ((List (S82)) × Bool)
 | 0, _, _ => none
 | k + 1, x0, x6 => (impl_WaysOk.f k x6).bind fun t115 => (if t115 = true then (some (x6, true)) else ((slices_Clone_Way.f x0).bind fun t116 => (some (t116, false))))
def impl_WaysPut.f (k : Nat) (l0 : List (S82)) (a1_0 : Int) (a1_1 : Int) (a1_2 : Int) : Option ((List (S82)) × Bool) := (impl_WaysOk.f k l0).bind fun t102 => (if t102 = true then ((slices_Clone_Way.f l0).bind fun t103 => ((impl_find.f k t103 a1_0 a1_1).bind fun bt106 => (if bt106.2 = true then (if 0 ≤ bt106.1 then (if bt106.1 < (t103.length : Int) then (impl_WaysPut.j0 k l0 (t103.set (bt106.1 : Int).toNat (⟨(⟨a1_0, a1_1⟩ : S24), a1_2⟩ : S82))) else (none)) else (none)) else ((slices_Insert_Way.f t103 bt106.1 (([(⟨(⟨a1_0, a1_1⟩ : S24), a1_2⟩ : S82)] : List (S82)))).bind fun t112 => (impl_WaysPut.j0 k l0 t112))))) else (some (([] : List (S82)), false)))
set_option maxHeartbeats 8000000 in
set_option maxRecDepth 100000 in
theorem impl_WaysPut.calls (k : Nat) (A0 : Option Addr) (c0 : Nat) (l0 : List (S82)) (a1_0 : Int) (a1_1 : Int) (a1_2 : Int) (r1 : List (S82)) (r2 : Bool) (w : World) (hr0 : Kd.C k82 w A0 l0.length l0) (hc0 : l0.length ≤ c0) (h : impl_WaysPut.f k l0 a1_0 a1_1 a1_2 = some (r1, r2)) :
  Calls Try.prog 56 #[.slice A0 l0.length c0, .agg #[.int .i64 a1_0, .int .i64 a1_1, .int .i64 a1_2]] w fun e w' => ∃ v0_ : Value, e = .returned (.tuple #[v0_, .bool r2]) ∧ Kd.R k82 82 w' w.heap.size (fun _ => True) v0_ r1 ∧ Below w.heap.size w w' := by
 have hu82 := Try.underlying82
 have hu24 := Try.underlying24
 have HR0 := a1z.mk hr0
 have HC0 := a1z.mk hc0
 clear hr0 hc0
 have HB := a1z.mk (Below.refl w.heap.size w)
 have H : ((impl_WaysOk.f k l0).bind fun t102 => (if t102 = true then ((slices_Clone_Way.f l0).bind fun t103 => ((impl_find.f k t103 a1_0 a1_1).bind fun bt106 => (if bt106.2 = true then (if 0 ≤ bt106.1 then (if bt106.1 < (t103.length : Int) then (impl_WaysPut.j0 k l0 (t103.set (bt106.1 : Int).toNat (⟨(⟨a1_0, a1_1⟩ : S24), a1_2⟩ : S82))) else (none)) else (none)) else ((slices_Insert_Way.f t103 bt106.1 (([(⟨(⟨a1_0, a1_1⟩ : S24), a1_2⟩ : S82)] : List (S82)))).bind fun t112 => (impl_WaysPut.j0 k l0 t112))))) else (some (([] : List (S82)), false)))) = some (r1, r2) := h
 clear h
 replace H := Option.bind_eq_some_iff.mp H
 obtain ⟨t102, A30, H⟩ := H
 replace H : (if t102 = true then ((slices_Clone_Way.f l0).bind fun t103 => ((impl_find.f k t103 a1_0 a1_1).bind fun bt106 => (if bt106.2 = true then (if 0 ≤ bt106.1 then (if bt106.1 < (t103.length : Int) then (impl_WaysPut.j0 k l0 (t103.set (bt106.1 : Int).toNat (⟨(⟨a1_0, a1_1⟩ : S24), a1_2⟩ : S82))) else (none)) else (none)) else ((slices_Insert_Way.f t103 bt106.1 (([(⟨(⟨a1_0, a1_1⟩ : S24), a1_2⟩ : S82)] : List (S82)))).bind fun t112 => (impl_WaysPut.j0 k l0 t112))))) else (some (([] : List (S82)), false))) = some (r1, r2) := H
 have A3 := a1z.mk A30
 clear A30
 by_cases c4 : t102 = true
 ·subst c4
  have H1 : ((slices_Clone_Way.f l0).bind fun t103 => ((impl_find.f k t103 a1_0 a1_1).bind fun bt106 => (if bt106.2 = true then (if 0 ≤ bt106.1 then (if bt106.1 < (t103.length : Int) then (impl_WaysPut.j0 k l0 (t103.set (bt106.1 : Int).toNat (⟨(⟨a1_0, a1_1⟩ : S24), a1_2⟩ : S82))) else (none)) else (none)) else ((slices_Insert_Way.f t103 bt106.1 (([(⟨(⟨a1_0, a1_1⟩ : S24), a1_2⟩ : S82)] : List (S82)))).bind fun t112 => (impl_WaysPut.j0 k l0 t112))))) = some (r1, r2) := by rw [if_pos rfl] at H; exact H
  clear H
  have H := H1
  clear H1
  replace H := Option.bind_eq_some_iff.mp H
  obtain ⟨t103, A50, H⟩ := H
  replace H : ((impl_find.f k t103 a1_0 a1_1).bind fun bt106 => (if bt106.2 = true then (if 0 ≤ bt106.1 then (if bt106.1 < (t103.length : Int) then (impl_WaysPut.j0 k l0 (t103.set (bt106.1 : Int).toNat (⟨(⟨a1_0, a1_1⟩ : S24), a1_2⟩ : S82))) else (none)) else (none)) else ((slices_Insert_Way.f t103 bt106.1 (([(⟨(⟨a1_0, a1_1⟩ : S24), a1_2⟩ : S82)] : List (S82)))).bind fun t112 => (impl_WaysPut.j0 k l0 t112)))) = some (r1, r2) := H
  have A5 := a1z.mk A50
  clear A50
  replace H := Option.bind_eq_some_iff.mp H
  obtain ⟨⟨t106, t107⟩, A60, H⟩ := H
  replace H : (if t107 = true then (if 0 ≤ t106 then (if t106 < (t103.length : Int) then (impl_WaysPut.j0 k l0 (t103.set (t106 : Int).toNat (⟨(⟨a1_0, a1_1⟩ : S24), a1_2⟩ : S82))) else (none)) else (none)) else ((slices_Insert_Way.f t103 t106 (([(⟨(⟨a1_0, a1_1⟩ : S24), a1_2⟩ : S82)] : List (S82)))).bind fun t112 => (impl_WaysPut.j0 k l0 t112))) = some (r1, r2) := H
  have A6 := a1z.mk A60
  clear A60
  have HC7 := a1z.mk H
  clear H
  go_enter Try.func56, Try.ntmps56
  go_upto_if 21 with (first | ((with_reducible refine c9z (N := 3) rfl ?_); refine d0z ?hg (N := 3) ?hd (cs := #[.int .i64 a1_0, .int .i64 a1_1, .int .i64 a1_2]) (t := 82) ?hr ?_; (case hd => rfl); (case hg => rfl); (case hr => first | (go_simp; done) | (go_simp; rfl)); intro gb101 hg w8 hbox hb; have n0_ := a1z.mk (b5z (by repeat (first | (with_reducible first | exact HB.1 | apply a3z | apply a0z | apply a2z) | exact HB.1)) hb); have n1_ := a1z.mk (hbox); have n2_ := a1z.mk ((by rw [hg]; exact (b4z (by repeat (first | (with_reducible first | exact HB.1 | apply a3z | apply a0z | apply a2z) | exact HB.1))) : w.heap.size ≤ gb101)); have n3_ := a1z.mk ((by rw [hg]; exact (b4z (by repeat (first | (with_reducible first | exact HB.1 | apply a3z | apply a0z | apply a2z) | exact HB.1))) : w.heap.size ≤ gb101)); clear HB; have HB := n0_; have BK101 := n1_; have GW101 := n2_; have GE101 := n3_; clear n0_ n1_ n2_ n3_; clear hb hbox hg) | ((with_reducible refine c2z (f := 43) rfl ?_); refine d1z (some 10) rfl rfl Try.func43 (by kernel_rfl) rfl #[.slice A0 l0.length c0] rfl (by (try simp only [List.map_toArray, List.map_cons, List.map_nil]); first | done | rfl | (simp only [List.length_drop, List.length_take]; rfl)) ?_; (with_reducible refine (impl_WaysOk.calls k _ _ l0 true _ ?side1 ?side2 A3.1).mono ?_); (case side1 => repeat (first | exact (Kd.f0z HR0.1 HB.1) | (with_reducible refine Kd.C_alloc ?_ _) | (with_reducible refine Kd.C_drewN ?_ _) | (with_reducible refine Kd.C_drew ?_))); (case side2 => exact HC0.1); rintro e w9 ⟨rfl, hb⟩; refine ⟨_, rfl, ?_⟩; have n0_ := a1z.mk (b7z (g := gb101) (o := .cells #[.int .i64 a1_0, .int .i64 a1_1, .int .i64 a1_2] 82 (0, 0)) (by (with_reducible repeat (first | refine a6z ?_ _ | refine a7z ?_ | refine blk_alloc ?_ _)); exact BK101.1) hb); have n1_ := a1z.mk (b5z (by repeat (first | (with_reducible first | exact HB.1 | apply a3z | apply a0z | apply a2z | refine a4z ?_ GE101.1) | exact HB.1)) hb); clear BK101; clear HB; have BK101 := n0_; have HB := n1_; clear n0_ n1_; (try clear hb); (try clear hb2); (try clear hk); (try clear hi)) | ((with_reducible refine c2z (f := 94) rfl ?_); refine d1z (some 13) rfl rfl Try.func94 (by kernel_rfl) rfl #[.slice A0 l0.length c0] rfl (by (try simp only [List.map_toArray, List.map_cons, List.map_nil]); first | done | rfl | (simp only [List.length_drop, List.length_take]; rfl)) ?_; (with_reducible refine (slices_Clone_Way.calls _ _ l0 t103 _ ?side1 ?side2 A5.1).mono ?_); (case side1 => repeat (first | exact (Kd.f0z HR0.1 HB.1) | (with_reducible refine Kd.C_alloc ?_ _) | (with_reducible refine Kd.C_drewN ?_ _) | (with_reducible refine Kd.C_drew ?_))); (case side2 => exact HC0.1); rintro e w10 ⟨v104, rfl, ho0, hb⟩; refine ⟨_, rfl, ?_⟩; have n0_ := a1z.mk (Kd.c7z (Kd.d7z ho0 (g := gb101) (o := .cells #[.int .i64 a1_0, .int .i64 a1_1, .int .i64 a1_2] 82 (0, 0)) (by (with_reducible repeat (first | refine a6z ?_ _ | refine a7z ?_ | refine blk_alloc ?_ _)); exact BK101.1)) (b4z (by repeat (first | (with_reducible first | exact HB.1 | apply a3z | apply a0z | apply a2z | refine a4z ?_ GE101.1) | exact HB.1)))); have n1_ := a1z.mk (b7z (g := gb101) (o := .cells #[.int .i64 a1_0, .int .i64 a1_1, .int .i64 a1_2] 82 (0, 0)) (by (with_reducible repeat (first | refine a6z ?_ _ | refine a7z ?_ | refine blk_alloc ?_ _)); exact BK101.1) hb); have n2_ := a1z.mk (b5z (by repeat (first | (with_reducible first | exact HB.1 | apply a3z | apply a0z | apply a2z | refine a4z ?_ GE101.1) | exact HB.1)) hb); clear BK101; clear HB; have HO105 := n0_; have BK101 := n1_; have HB := n2_; clear n0_ n1_ n2_; (try clear hb); (try clear hb2); (try clear hk); (try clear hi); (try clear ho0); have hcz11_0 : w10.cell? ⟨gb101, 0, none⟩ = some (.int .i64 a1_0) := (a8z BK101.1 0).trans rfl; have hcz11_1 : w10.cell? ⟨gb101, 1, none⟩ = some (.int .i64 a1_1) := (a8z BK101.1 1).trans rfl; have hcz11_2 : w10.cell? ⟨gb101, 2, none⟩ = some (.int .i64 a1_2) := (a8z BK101.1 2).trans rfl; have hfz11_0 := a9z BK101.1 0; have hfz11_1 := a9z BK101.1 1; have hfz11_2 := a9z BK101.1 2; obtain ⟨Ao12, co12, eo12⟩ := Kd.d2z HO105.1; subst eo12) | ((with_reducible refine c2z (f := 95) rfl ?_); refine d1z (some 18) rfl rfl Try.func95 (by kernel_rfl) rfl #[.slice Ao12 t103.length co12, .agg #[.int .i64 a1_0, .int .i64 a1_1]] rfl (by (try simp only [List.map_toArray, List.map_cons, List.map_nil]); first | done | rfl | (simp only [List.length_drop, List.length_take]; rfl)) ?_; (with_reducible refine (impl_find.calls k _ _ t103 a1_0 a1_1 t106 t107 _ ?side1 ?side2 A6.1).mono ?_); (case side1 => repeat (first | exact (Kd.b6z HO105.1).2.2 | (with_reducible refine Kd.C_alloc ?_ _) | (with_reducible refine Kd.C_drewN ?_ _) | (with_reducible refine Kd.C_drew ?_))); (case side2 => exact (Kd.b6z HO105.1).2.1); rintro e w13 ⟨rfl, hb⟩; refine ⟨_, rfl, ?_⟩; have n0_ := a1z.mk (Kd.e9z (by (with_reducible repeat (first | apply Kd.R_alloc | apply Kd.b0z | apply Kd.b1z)); exact HO105.1) hb); have n1_ := a1z.mk (b7z (g := gb101) (o := .cells #[.int .i64 a1_0, .int .i64 a1_1, .int .i64 a1_2] 82 (0, 0)) (by (with_reducible repeat (first | refine a6z ?_ _ | refine a7z ?_ | refine blk_alloc ?_ _)); exact BK101.1) hb); have n2_ := a1z.mk (b5z (by repeat (first | (with_reducible first | exact HB.1 | apply a3z | apply a0z | apply a2z | refine a4z ?_ GE101.1) | exact HB.1)) hb); clear HO105; clear BK101; clear HB; have HO105 := n0_; have BK101 := n1_; have HB := n2_; clear n0_ n1_ n2_; (try clear hb); (try clear hb2); (try clear hk); (try clear hi)))
  (try simp only [Act.put, sA_, sZ_, sS_])
  go_cut [6] (fun v6 wc => ∃ (kq : Nat) (x6_6 : List (S82)) (x102000_6 : Int) (x102001_6 : Int) (x102002_6 : Int), a1z (impl_WaysPut.j0 kq l0 x6_6 = some (r1, r2)) ∧ a1z (kq ≤ k) ∧ a1z (Kd.R k82 82 wc w.heap.size (fun k_ => k_ ≠ gb101) v6 x6_6) ∧ a1z (wc.heap[gb101]? = some (.cells #[.int .i64 x102000_6, .int .i64 x102001_6, .int .i64 x102002_6] 82 (0, 0))) ∧ a1z (Below w.heap.size w wc))
  case first =>
   have H := HC7.1
   clear HC7
   by_cases c14 : t107 = true
   ·subst c14
    have H1 : (if 0 ≤ t106 then (if t106 < (t103.length : Int) then (impl_WaysPut.j0 k l0 (t103.set (t106 : Int).toNat (⟨(⟨a1_0, a1_1⟩ : S24), a1_2⟩ : S82))) else (none)) else (none)) = some (r1, r2) := by rw [if_pos rfl] at H; exact H
    clear H
    have H := H1
    clear H1
    by_cases c15 : 0 ≤ t106
    ·rw [if_pos c15] at H
     have c15b0 : decide (0 ≤ t106) = true := decide_eq_true c15
     clear c15
     (first | rw [c15b0] | (simp only [i64_w, i32_w]; rw [c15b0]) | skip)
     by_cases c16 : t106 < (t103.length : Int)
     ·rw [if_pos c16] at H
      have c16b0 : decide (t106 < (t103.length : Int)) = true := decide_eq_true c16
      clear c16
      obtain ⟨y108, hy108⟩ : ∃ y_ : List (S82), y_ = (t103.set (t106 : Int).toNat (⟨(⟨a1_0, a1_1⟩ : S24), a1_2⟩ : S82)) := ⟨_, rfl⟩
      replace H : (impl_WaysPut.j0 k l0 y108) = some (r1, r2) := by first | (rw [hy108]; with_reducible exact H) | (have H2_ := (Option.bind_some _ _).symm.trans H; rw [hy108]; with_reducible exact H2_) | (have H2_ := (Option.bind_some _ _).symm.trans H; with_reducible exact H2_) | with_reducible exact H | (rw [hy108]; exact H) | exact H
      have Ny108 := a1z.mk hy108
      clear hy108
      have H' := a1z.mk H
      clear H
      have hcz18_0 : w13.cell? ⟨gb101, 0, none⟩ = some (.int .i64 a1_0) := (a8z BK101.1 0).trans rfl
      have hcz18_1 : w13.cell? ⟨gb101, 1, none⟩ = some (.int .i64 a1_1) := (a8z BK101.1 1).trans rfl
      have hcz18_2 : w13.cell? ⟨gb101, 2, none⟩ = some (.int .i64 a1_2) := (a8z BK101.1 2).trans rfl
      have hfz18_0 := a9z BK101.1 0
      have hfz18_1 := a9z BK101.1 1
      have hfz18_2 := a9z BK101.1 2
      have p17 : 0 ≤ (t106 : Int) := of_decide_eq_true (by first | (with_reducible assumption) | assumption)
      have q17 : (t106 : Int) < ((t103.length : Int) : Int) := of_decide_eq_true (by first | (with_reducible assumption) | assumption)
      obtain ⟨go17, co17, eo17, gb17, gl17, cl17, HG17⟩ := Kd.R_form HO105.1 (by omega)
      (first | cases eo17 | (injection eo17 with ea_ en_ ec_; (first | subst ea_ | (injection ea_ with ea_; subst ea_)); subst ec_; clear en_))
      have GB17 := a1z.mk gb17
      have GG17 := a1z.mk HG17
      clear gb17 gl17 HG17
      obtain ⟨ce17, hcl17, hM17, hcc17, hfr17⟩ := Kd.R_elem HO105.1 z82 (t106 : Int) p17 q17
      obtain rfl := g9z hM17
      have hx17_0 : w13.cell? ⟨go17, (t106 : Int).toNat * 3, none⟩ = some (.int .i64 ((b2z t103 t106).f0.f0)) := hcc17 0 _ rfl
      have hx17_1 : w13.cell? ⟨go17, (t106 : Int).toNat * 3 + 1, none⟩ = some (.int .i64 ((b2z t103 t106).f0.f1)) := hcc17 1 _ rfl
      have hx17_2 : w13.cell? ⟨go17, (t106 : Int).toNat * 3 + 2, none⟩ = some (.int .i64 ((b2z t103 t106).f1)) := hcc17 2 _ rfl
      have hf17_0 : w13.frozen? ⟨go17, (t106 : Int).toNat * 3, none⟩ = false := hfr17 0
      have hf17_1 : w13.frozen? ⟨go17, (t106 : Int).toNat * 3 + 1, none⟩ = false := hfr17 1
      have hf17_2 : w13.frozen? ⟨go17, (t106 : Int).toNat * 3 + 2, none⟩ = false := hfr17 2
      clear hcl17 hcc17 hfr17 hM17
      replace p17 := eq_true p17
      replace q17 := eq_true q17
      have n_ := a1z.mk (Kd.c8z (ok' := (fun k_ => k_ ≠ gb101)) HO105.1 (fun k_ hk => hk.2))
      clear HO105
      have HO105 := n_
      clear n_
      have HX19 := a1z.mk (show Kd.R k82 82 w13 w.heap.size (fun k_ => k_ ≠ gb101) (.slice (some ⟨go17, 0, none⟩) t103.length co12) t103 from (by (with_reducible repeat (first | apply Kd.R_alloc | apply Kd.b0z | apply Kd.b1z)); exact HO105.1))
      obtain ⟨ce19, hcl19, hM19, hcc19, hfr19⟩ := Kd.R_elem HX19.1 z82 (t106 : Int) (of_decide_eq_true (by first | (with_reducible assumption) | assumption)) (by have h_ : (t106 : Int) < ((t103.length : Int) : Int) := of_decide_eq_true (by first | (with_reducible assumption) | assumption); first | exact h_ | (have e_ := (Kd.b6z HO105.1).1; omega) | simpa using h_)
      obtain rfl := g9z hM19
      have HP19 := Kd.R_seg HX19.1 (t106 : Int) (of_decide_eq_true (by first | (with_reducible assumption) | assumption)) (by have h_ : (t106 : Int) < ((t103.length : Int) : Int) := of_decide_eq_true (by first | (with_reducible assumption) | assumption); first | exact h_ | (have e_ := (Kd.b6z HO105.1).1; omega) | simpa using h_) (seg := [.int .i64 a1_0, .int .i64 a1_1, .int .i64 a1_2]) (j := 0) hcl19 hcc19 (show 3 ≤ 3 from by decide) (x' := (⟨(⟨a1_0, a1_1⟩ : S24), a1_2⟩ : S82)) (k82_mkM _ _ _ (⟨(⟨a1_0, a1_1⟩ : S24), a1_2⟩ : S82) ) (fun _ hk => hk)
      have hx19_0 := hcc19 0 _ rfl
      (try simp only [show (k82).sz = 3 from rfl, Nat.mul_one, Nat.add_zero] at hx19_0)
      have hf19_0 := hfr19 0
      (try simp only [show (k82).sz = 3 from rfl, Nat.mul_one, Nat.add_zero] at hf19_0)
      have hx19_1 := hcc19 1 _ rfl
      (try simp only [show (k82).sz = 3 from rfl, Nat.mul_one, Nat.add_zero] at hx19_1)
      have hf19_1 := hfr19 1
      (try simp only [show (k82).sz = 3 from rfl, Nat.mul_one, Nat.add_zero] at hf19_1)
      have hx19_2 := hcc19 2 _ rfl
      (try simp only [show (k82).sz = 3 from rfl, Nat.mul_one, Nat.add_zero] at hx19_2)
      have hf19_2 := hfr19 2
      (try simp only [show (k82).sz = 3 from rfl, Nat.mul_one, Nat.add_zero] at hf19_2)
      clear hcl19 hcc19 hfr19 hM19
      go_wp2_with (first | ((with_reducible refine gate_store (t := 82) (p := 25) rfl ?_); refine store_event (t := 82) (p := 25) (v := ?vo_w20) (w1 := (((w13.setCell ⟨go17, (t106 : Int).toNat * 3, none⟩ (.int .i64 a1_0)).setCell ⟨go17, (t106 : Int).toNat * 3 + 1, none⟩ (.int .i64 a1_1)).setCell ⟨go17, (t106 : Int).toNat * 3 + 2, none⟩ (.int .i64 a1_2))) ?hg ?ho ?hn ?hr ?_; (case ho => rfl); (case hg => rfl); (case hn => rfl); (case hr => first | (go_simp; done) | (go_simp; rfl)); intro w20 hw; have hg : w13.grownBy w20 (some go17) := (by rw [hw]; exact HP19.2); have hp_ : Kd.R k82 82 w20 w.heap.size (fun k_ => k_ ≠ gb101) (.slice (some ⟨go17, 0, none⟩) t103.length co12) y108 := (by rw [hw, Ny108.1]; exact HP19.1); clear HP19; have n0_ := a1z.mk (g6z (g := gb101) (o := .cells #[.int .i64 a1_0, .int .i64 a1_1, .int .i64 a1_2] 82 (0, 0)) (by (with_reducible repeat (first | refine a6z ?_ _ | refine a7z ?_ | refine blk_alloc ?_ _)); exact BK101.1) hg (Kd.R_away HO105.1 (fun _ hk => hk))); have n1_ := a1z.mk (hp_); have n2_ := a1z.mk ((by rw [hw]; exact a4z (a4z (a4z (HB.1) GB17.1) GB17.1) GB17.1 : Below w.heap.size w w20)); clear BK101; clear HO105; clear HB; have BK101 := n0_; have HO105 := n1_; have HB := n2_; clear n0_ n1_ n2_; clear hg hw hp_))
      go_meet
      case rel => exact ⟨_, (y108), (a1_0), (a1_1), (a1_2), H', ⟨by first | omega | exact Nat.le_refl _⟩, ⟨by (with_reducible repeat (first | apply Kd.R_alloc | apply Kd.b0z | apply Kd.b1z)); exact HO105.1⟩, ⟨by (with_reducible repeat (first | refine a6z ?_ _ | refine a7z ?_ | refine blk_alloc ?_ _)); exact BK101.1⟩, ⟨by repeat (first | (with_reducible first | exact HB.1 | apply a3z | apply a0z | apply a2z | refine a4z ?_ GE101.1) | exact HB.1)⟩⟩
     ·rw [if_neg c16] at H
      exact absurd H (by simp)
    ·rw [if_neg c15] at H
     exact absurd H (by simp)
   ·replace c14 := Bool.eq_false_iff.mpr c14
    subst c14
    have H1 : ((slices_Insert_Way.f t103 t106 (([(⟨(⟨a1_0, a1_1⟩ : S24), a1_2⟩ : S82)] : List (S82)))).bind fun t112 => (impl_WaysPut.j0 k l0 t112)) = some (r1, r2) := by rw [if_neg (show ¬ (false = true) by decide)] at H; exact H
    clear H
    have H := H1
    clear H1
    obtain ⟨y109, hy109⟩ : ∃ y_ : List (S82), y_ = (([(⟨(⟨a1_0, a1_1⟩ : S24), a1_2⟩ : S82)] : List (S82))) := ⟨_, rfl⟩
    replace H : ((slices_Insert_Way.f t103 t106 y109).bind fun t112 => (impl_WaysPut.j0 k l0 t112)) = some (r1, r2) := by first | (rw [hy109]; with_reducible exact H) | (have H2_ := (Option.bind_some _ _).symm.trans H; rw [hy109]; with_reducible exact H2_) | (have H2_ := (Option.bind_some _ _).symm.trans H; with_reducible exact H2_) | with_reducible exact H | (rw [hy109]; exact H) | exact H
    have Ny109 := a1z.mk hy109
    clear hy109
    replace H := Option.bind_eq_some_iff.mp H
    obtain ⟨t112, A210, H⟩ := H
    replace H : (impl_WaysPut.j0 k l0 t112) = some (r1, r2) := H
    have A21 := a1z.mk A210
    clear A210
    have H' := a1z.mk H
    clear H
    have hcz22_0 : w13.cell? ⟨gb101, 0, none⟩ = some (.int .i64 a1_0) := (a8z BK101.1 0).trans rfl
    have hcz22_1 : w13.cell? ⟨gb101, 1, none⟩ = some (.int .i64 a1_1) := (a8z BK101.1 1).trans rfl
    have hcz22_2 : w13.cell? ⟨gb101, 2, none⟩ = some (.int .i64 a1_2) := (a8z BK101.1 2).trans rfl
    have hfz22_0 := a9z BK101.1 0
    have hfz22_1 := a9z BK101.1 1
    have hfz22_2 := a9z BK101.1 2
    go_wp2_with (first | ((with_reducible refine c9z (N := 29) rfl ?_); refine Kd.R_lit k82 _ 82 ?hg (N := 29) ?hd (xs := ([(⟨(⟨a1_0, a1_1⟩ : S24), a1_2⟩ : S82)] : List (S82))) (inner := [.int .i64 a1_0, .int .i64 a1_1, .int .i64 a1_2]) (ok := fun _ => True) (okp := fun _ => True) ?hr ?hp (fun _ hk => hk) trivial (Below.refl _ _) (Nat.le_refl _) (by simp) ?_; (case hd => rfl); (case hg => rfl); (case hr => first | (go_simp; done) | (go_simp; rfl)); (case hp => exact (Reps.c3 (show Kd.M k82 _ _ _ (⟨(⟨a1_0, a1_1⟩ : S24), a1_2⟩ : S82) [.int .i64 a1_0, .int .i64 a1_1, .int .i64 a1_2] from (k82_mkM _ _ _ (⟨(⟨a1_0, a1_1⟩ : S24), a1_2⟩ : S82) )) (Reps.none _ _))); intro v110 w23 ho24 hb hg_ hnew_; clear hg_ hnew_; (first | rw [← Ny109.1] at ho24 | (simp only [Int.reduceToNat] at ho24; rw [← Ny109.1] at ho24)); have n0_ := a1z.mk (Kd.b9z (by (with_reducible repeat (first | apply Kd.R_alloc | apply Kd.b0z | apply Kd.b1z)); exact HO105.1) (Kd.c6z ho24) hb); have n1_ := a1z.mk (Kd.c7z (Kd.d7z (Kd.c5z ho24 (Kd.R_lt (by (with_reducible repeat (first | apply Kd.R_alloc | apply Kd.b0z | apply Kd.b1z)); exact HO105.1))) (g := gb101) (o := .cells #[.int .i64 a1_0, .int .i64 a1_1, .int .i64 a1_2] 82 (0, 0)) (by (with_reducible repeat (first | refine a6z ?_ _ | refine a7z ?_ | refine blk_alloc ?_ _)); exact BK101.1)) (b4z (by repeat (first | (with_reducible first | exact HB.1 | apply a3z | apply a0z | apply a2z | refine a4z ?_ GE101.1) | exact HB.1)))); have n2_ := a1z.mk (b7z (g := gb101) (o := .cells #[.int .i64 a1_0, .int .i64 a1_1, .int .i64 a1_2] 82 (0, 0)) (by (with_reducible repeat (first | refine a6z ?_ _ | refine a7z ?_ | refine blk_alloc ?_ _)); exact BK101.1) hb); have n3_ := a1z.mk (b5z (by repeat (first | (with_reducible first | exact HB.1 | apply a3z | apply a0z | apply a2z | refine a4z ?_ GE101.1) | exact HB.1)) hb); clear HO105; clear BK101; clear HB; have HO105 := n0_; have HO111 := n1_; have BK101 := n2_; have HB := n3_; clear n0_ n1_ n2_ n3_; clear hb ho24; obtain ⟨Ao25, co25, eo25⟩ := Kd.d2z HO111.1; subst eo25) | ((with_reducible refine c2z (f := 97) rfl ?_); refine d1z (some 30) rfl rfl Try.func97 (by kernel_rfl) rfl #[.slice Ao12 t103.length co12, .int .i64 t106, .slice Ao25 y109.length co25] rfl (by (try simp only [List.map_toArray, List.map_cons, List.map_nil]); first | done | rfl | (simp only [List.length_drop, List.length_take]; rfl)) ?_; (with_reducible refine (slices_Insert_Way.calls (fun k_ => some k_ = (.slice Ao12 t103.length co12 : Value).ownBlock) (.slice Ao12 t103.length co12) t103 t106 (fun k_ => some k_ = (.slice Ao25 y109.length co25 : Value).ownBlock) (.slice Ao25 y109.length co25) y109 t112 w _ ?side1 ?side2 ?side3 ?side4 ?side5 A21.1).mono ?_); (case side1 => repeat (first | (with_reducible first | exact HB.1 | apply a3z | apply a0z | apply a2z | refine a4z ?_ GE101.1) | exact HB.1)); (case side2 => exact Kd.R_tight rfl HO105.1); (case side3 => exact fun k_ e_ => (HO105.1.1 k_ e_.symm).2); (case side4 => exact Kd.R_tight rfl HO111.1); (case side5 => exact fun k_ e_ => (HO111.1.1 k_ e_.symm).1.2); rintro e w26 ⟨v113, rfl, ho0, hb, hkp⟩; refine ⟨_, rfl, ?_⟩; have n0_ := a1z.mk (blk_kept (by (with_reducible repeat (first | refine a6z ?_ _ | refine a7z ?_ | refine blk_alloc ?_ _)); exact BK101.1) hkp (fun hs_ => Or.elim hs_ (fun e_ => (fun e_ => (Kd.R_away HO105.1 (fun _ hk => hk.1.2)) e_) e_) (fun e_ => (fun e_ => (Kd.R_away HO111.1 (fun _ hk => hk.2)) e_) e_))); have n1_ := a1z.mk (Kd.c8z (ok' := fun k_ => k_ ≠ gb101) ho0 (fun k_ hk_ => Or.elim hk_ (fun hs_ => Or.elim hs_ (fun hs_ => fun e_ => (Kd.R_away HO105.1 (fun _ hk => hk.1.2)) (by rw [← e_]; exact hs_)) (fun hs_ => fun e_ => (Kd.R_away HO111.1 (fun _ hk => hk.2)) (by rw [← e_]; exact hs_))) (fun hn_ => (Kd.freshB (g := gb101) (o := .cells #[.int .i64 a1_0, .int .i64 a1_1, .int .i64 a1_2] 82 (0, 0)) (by (with_reducible repeat (first | refine a6z ?_ _ | refine a7z ?_ | refine blk_alloc ?_ _)); exact BK101.1) k_ hn_)))); have n2_ := a1z.mk (hb); clear BK101; clear HB; clear HO105; clear HO111; have BK101 := n0_; have HO114 := n1_; have HB := n2_; clear n0_ n1_ n2_; (try clear hb); (try clear hkp); (try clear ho0)))
    go_meet
    case rel => exact ⟨_, (t112), (a1_0), (a1_1), (a1_2), H', ⟨by first | omega | exact Nat.le_refl _⟩, ⟨by (with_reducible repeat (first | apply Kd.R_alloc | apply Kd.b0z | apply Kd.b1z)); exact HO114.1⟩, ⟨by (with_reducible repeat (first | refine a6z ?_ _ | refine a7z ?_ | refine blk_alloc ?_ _)); exact BK101.1⟩, ⟨by repeat (first | (with_reducible first | exact HB.1 | apply a3z | apply a0z | apply a2z | refine a4z ?_ GE101.1) | exact HB.1)⟩⟩
  case rest =>
   clear HC7
   try clear c1
   try clear p1
   try clear q1
   try clear hx1
   try clear p2
   try clear c3
   try clear c4
   try clear c5
   try clear c9
   try clear c14
   try clear c15
   try clear c15b0
   try clear c16
   try clear c16b0
   try clear c17
   try clear p17
   try clear q17
   try clear hx17
   try clear hf17
   try clear c19
   try clear hx19
   try clear hf19
   try clear hcz11_0
   try clear hcz11_1
   try clear hcz11_2
   try clear hcz18_0
   try clear hcz18_1
   try clear hcz18_2
   try clear hcz22_0
   try clear hcz22_1
   try clear hcz22_2
   try clear hfz11_0
   try clear hfz11_1
   try clear hfz11_2
   try clear hfz18_0
   try clear hfz18_1
   try clear hfz18_2
   try clear hfz22_0
   try clear hfz22_1
   try clear hfz22_2
   try clear hx17_0
   try clear hx17_1
   try clear hx17_2
   try clear hx19_0
   try clear hx19_1
   try clear hx19_2
   try clear p17
   try clear q17
   obtain ⟨kq, x6_6, x102000_6, x102001_6, x102002_6, HA, HJ6, HO_6, BK101, HB⟩ := hcut
   cases kq with
   | zero => exact absurd HA.1 (by simp [impl_WaysPut.j0])
   | succ kj6 =>
    have H := HA.1
    clear HA
    simp only [impl_WaysPut.j0] at H
    replace H := Option.bind_eq_some_iff.mp H
    obtain ⟨t115, A270, H⟩ := H
    replace H : (if t115 = true then (some (x6_6, true)) else ((slices_Clone_Way.f l0).bind fun t116 => (some (t116, false)))) = some (r1, r2) := H
    have A27 := a1z.mk A270
    clear A270
    by_cases c28 : t115 = true
    ·subst c28
     have H1 : (some (x6_6, true)) = some (r1, r2) := by rw [if_pos rfl] at H; exact H
     clear H
     have H := H1
     clear H1
     simp only [Option.some.injEq, Prod.mk.injEq] at H
     obtain ⟨rfl, rfl⟩ := H
     obtain ⟨Ao29, co29, eo29⟩ := Kd.d2z HO_6.1
     subst eo29
     go_wp2_with (first | ((with_reducible refine c2z (f := 43) rfl ?_); refine d1z (some 32) rfl rfl Try.func43 (by kernel_rfl) rfl #[.slice Ao29 x6_6.length co29] rfl (by (try simp only [List.map_toArray, List.map_cons, List.map_nil]); first | done | rfl | (simp only [List.length_drop, List.length_take]; rfl)) ?_; (with_reducible refine (impl_WaysOk.calls kj6 _ _ x6_6 true _ ?side1 ?side2 A27.1).mono ?_); (case side1 => repeat (first | exact (Kd.b6z HO_6.1).2.2 | (with_reducible refine Kd.C_alloc ?_ _) | (with_reducible refine Kd.C_drewN ?_ _) | (with_reducible refine Kd.C_drew ?_))); (case side2 => exact (Kd.b6z HO_6.1).2.1); rintro e w30 ⟨rfl, hb⟩; refine ⟨_, rfl, ?_⟩; have n0_ := a1z.mk (Kd.e9z (by (with_reducible repeat (first | apply Kd.R_alloc | apply Kd.b0z | apply Kd.b1z)); exact HO_6.1) hb); have n1_ := a1z.mk (b7z (g := gb101) (o := .cells #[.int .i64 x102000_6, .int .i64 x102001_6, .int .i64 x102002_6] 82 (0, 0)) (by (with_reducible repeat (first | refine a6z ?_ _ | refine a7z ?_ | refine blk_alloc ?_ _)); exact BK101.1) hb); have n2_ := a1z.mk (b5z (by repeat (first | (with_reducible first | exact HB.1 | apply a3z | apply a0z | apply a2z | refine a4z ?_ GE101.1) | exact HB.1)) hb); clear HO_6; clear BK101; clear HB; have HO_6 := n0_; have BK101 := n1_; have HB := n2_; clear n0_ n1_ n2_; (try clear hb); (try clear hb2); (try clear hk); (try clear hi)))
     go_ret2
     exact ⟨_, by first | rfl | (simp [c1z, c0z] <;> rfl) | (simp [*, c1z, c0z] <;> rfl), by (with_reducible repeat (first | apply Kd.R_alloc | apply Kd.b0z | apply Kd.b1z)); exact Kd.c8z HO_6.1 (fun _ hk => trivial), by repeat (first | (with_reducible first | exact HB.1 | apply a3z | apply a0z | apply a2z | refine a4z ?_ GE101.1) | exact HB.1)⟩
    ·replace c28 := Bool.eq_false_iff.mpr c28
     subst c28
     have H1 : ((slices_Clone_Way.f l0).bind fun t116 => (some (t116, false))) = some (r1, r2) := by rw [if_neg (show ¬ (false = true) by decide)] at H; exact H
     clear H
     have H := H1
     clear H1
     replace H := Option.bind_eq_some_iff.mp H
     obtain ⟨t116, A310, H⟩ := H
     replace H : (some (t116, false)) = some (r1, r2) := H
     have A31 := a1z.mk A310
     clear A310
     simp only [Option.some.injEq, Prod.mk.injEq] at H
     obtain ⟨rfl, rfl⟩ := H
     obtain ⟨Ao32, co32, eo32⟩ := Kd.d2z HO_6.1
     subst eo32
     go_wp2_with (first | ((with_reducible refine c2z (f := 43) rfl ?_); refine d1z (some 32) rfl rfl Try.func43 (by kernel_rfl) rfl #[.slice Ao32 x6_6.length co32] rfl (by (try simp only [List.map_toArray, List.map_cons, List.map_nil]); first | done | rfl | (simp only [List.length_drop, List.length_take]; rfl)) ?_; (with_reducible refine (impl_WaysOk.calls kj6 _ _ x6_6 false _ ?side1 ?side2 A27.1).mono ?_); (case side1 => repeat (first | exact (Kd.b6z HO_6.1).2.2 | (with_reducible refine Kd.C_alloc ?_ _) | (with_reducible refine Kd.C_drewN ?_ _) | (with_reducible refine Kd.C_drew ?_))); (case side2 => exact (Kd.b6z HO_6.1).2.1); rintro e w33 ⟨rfl, hb⟩; refine ⟨_, rfl, ?_⟩; have n0_ := a1z.mk (Kd.e9z (by (with_reducible repeat (first | apply Kd.R_alloc | apply Kd.b0z | apply Kd.b1z)); exact HO_6.1) hb); have n1_ := a1z.mk (b7z (g := gb101) (o := .cells #[.int .i64 x102000_6, .int .i64 x102001_6, .int .i64 x102002_6] 82 (0, 0)) (by (with_reducible repeat (first | refine a6z ?_ _ | refine a7z ?_ | refine blk_alloc ?_ _)); exact BK101.1) hb); have n2_ := a1z.mk (b5z (by repeat (first | (with_reducible first | exact HB.1 | apply a3z | apply a0z | apply a2z | refine a4z ?_ GE101.1) | exact HB.1)) hb); clear HO_6; clear BK101; clear HB; have HO_6 := n0_; have BK101 := n1_; have HB := n2_; clear n0_ n1_ n2_; (try clear hb); (try clear hb2); (try clear hk); (try clear hi)) | ((with_reducible refine c2z (f := 94) rfl ?_); refine d1z (some 35) rfl rfl Try.func94 (by kernel_rfl) rfl #[.slice A0 l0.length c0] rfl (by (try simp only [List.map_toArray, List.map_cons, List.map_nil]); first | done | rfl | (simp only [List.length_drop, List.length_take]; rfl)) ?_; (with_reducible refine (slices_Clone_Way.calls _ _ l0 t116 _ ?side1 ?side2 A31.1).mono ?_); (case side1 => repeat (first | exact (Kd.f0z HR0.1 HB.1) | (with_reducible refine Kd.C_alloc ?_ _) | (with_reducible refine Kd.C_drewN ?_ _) | (with_reducible refine Kd.C_drew ?_))); (case side2 => exact HC0.1); rintro e w34 ⟨v117, rfl, ho0, hb⟩; refine ⟨_, rfl, ?_⟩; have n0_ := a1z.mk (Kd.b9z (by (with_reducible repeat (first | apply Kd.R_alloc | apply Kd.b0z | apply Kd.b1z)); exact HO_6.1) (Kd.c6z ho0) hb); have n1_ := a1z.mk (Kd.c7z (Kd.d7z (Kd.c5z ho0 (Kd.R_lt (by (with_reducible repeat (first | apply Kd.R_alloc | apply Kd.b0z | apply Kd.b1z)); exact HO_6.1))) (g := gb101) (o := .cells #[.int .i64 x102000_6, .int .i64 x102001_6, .int .i64 x102002_6] 82 (0, 0)) (by (with_reducible repeat (first | refine a6z ?_ _ | refine a7z ?_ | refine blk_alloc ?_ _)); exact BK101.1)) (b4z (by repeat (first | (with_reducible first | exact HB.1 | apply a3z | apply a0z | apply a2z | refine a4z ?_ GE101.1) | exact HB.1)))); have n2_ := a1z.mk (b7z (g := gb101) (o := .cells #[.int .i64 x102000_6, .int .i64 x102001_6, .int .i64 x102002_6] 82 (0, 0)) (by (with_reducible repeat (first | refine a6z ?_ _ | refine a7z ?_ | refine blk_alloc ?_ _)); exact BK101.1) hb); have n3_ := a1z.mk (b5z (by repeat (first | (with_reducible first | exact HB.1 | apply a3z | apply a0z | apply a2z | refine a4z ?_ GE101.1) | exact HB.1)) hb); clear HO_6; clear BK101; clear HB; have HO_6 := n0_; have HO118 := n1_; have BK101 := n2_; have HB := n3_; clear n0_ n1_ n2_ n3_; (try clear hb); (try clear hb2); (try clear hk); (try clear hi); (try clear ho0)))
     go_ret2
     exact ⟨_, by first | rfl | (simp [c1z, c0z] <;> rfl) | (simp [*, c1z, c0z] <;> rfl), by (with_reducible repeat (first | apply Kd.R_alloc | apply Kd.b0z | apply Kd.b1z)); exact Kd.c8z HO118.1 (fun _ hk => trivial), by repeat (first | (with_reducible first | exact HB.1 | apply a3z | apply a0z | apply a2z | refine a4z ?_ GE101.1) | exact HB.1)⟩
 ·replace c4 := Bool.eq_false_iff.mpr c4
  subst c4
  have H1 : (some (([] : List (S82)), false)) = some (r1, r2) := by rw [if_neg (show ¬ (false = true) by decide)] at H; exact H
  clear H
  have H := H1
  clear H1
  simp only [Option.some.injEq, Prod.mk.injEq] at H
  obtain ⟨rfl, rfl⟩ := H
  go_enter Try.func56, Try.ntmps56
  go_wp2_with (first | ((with_reducible refine c9z (N := 3) rfl ?_); refine d0z ?hg (N := 3) ?hd (cs := #[.int .i64 a1_0, .int .i64 a1_1, .int .i64 a1_2]) (t := 82) ?hr ?_; (case hd => rfl); (case hg => rfl); (case hr => first | (go_simp; done) | (go_simp; rfl)); intro gb101 hg w35 hbox hb; have n0_ := a1z.mk (b5z (by repeat (first | (with_reducible first | exact HB.1 | apply a3z | apply a0z | apply a2z) | exact HB.1)) hb); have n1_ := a1z.mk (hbox); have n2_ := a1z.mk ((by rw [hg]; exact (b4z (by repeat (first | (with_reducible first | exact HB.1 | apply a3z | apply a0z | apply a2z) | exact HB.1))) : w.heap.size ≤ gb101)); have n3_ := a1z.mk ((by rw [hg]; exact (b4z (by repeat (first | (with_reducible first | exact HB.1 | apply a3z | apply a0z | apply a2z) | exact HB.1))) : w.heap.size ≤ gb101)); clear HB; have HB := n0_; have BK101 := n1_; have GW101 := n2_; have GE101 := n3_; clear n0_ n1_ n2_ n3_; clear hb hbox hg) | ((with_reducible refine c2z (f := 43) rfl ?_); refine d1z (some 10) rfl rfl Try.func43 (by kernel_rfl) rfl #[.slice A0 l0.length c0] rfl (by (try simp only [List.map_toArray, List.map_cons, List.map_nil]); first | done | rfl | (simp only [List.length_drop, List.length_take]; rfl)) ?_; (with_reducible refine (impl_WaysOk.calls k _ _ l0 false _ ?side1 ?side2 A3.1).mono ?_); (case side1 => repeat (first | exact (Kd.f0z HR0.1 HB.1) | (with_reducible refine Kd.C_alloc ?_ _) | (with_reducible refine Kd.C_drewN ?_ _) | (with_reducible refine Kd.C_drew ?_))); (case side2 => exact HC0.1); rintro e w36 ⟨rfl, hb⟩; refine ⟨_, rfl, ?_⟩; have n0_ := a1z.mk (b7z (g := gb101) (o := .cells #[.int .i64 a1_0, .int .i64 a1_1, .int .i64 a1_2] 82 (0, 0)) (by (with_reducible repeat (first | refine a6z ?_ _ | refine a7z ?_ | refine blk_alloc ?_ _)); exact BK101.1) hb); have n1_ := a1z.mk (b5z (by repeat (first | (with_reducible first | exact HB.1 | apply a3z | apply a0z | apply a2z | refine a4z ?_ GE101.1) | exact HB.1)) hb); clear BK101; clear HB; have BK101 := n0_; have HB := n1_; clear n0_ n1_; (try clear hb); (try clear hb2); (try clear hk); (try clear hi)))
  go_ret2
  exact ⟨_, by first | rfl | (simp [c1z, c0z] <;> rfl) | (simp [*, c1z, c0z] <;> rfl), by first | exact Kd.R_nil _ _ _ _ _ | exact Kd.N_nil _ _ _ _ _ | exact Kd.V_nil _ _ _ _ _ | exact Kd.Q_nil _ _ _ _ _ | exact Kd.S_nil _ _ _ _ _, by repeat (first | (with_reducible first | exact HB.1 | apply a3z | apply a0z | apply a2z | refine a4z ?_ GE101.1) | exact HB.1)⟩
end Go.Proofs.Ytbhgkpfbggkgdaa.Q

namespace Go.Proofs.Ytbhgkpfbggkgdaa.Q
open Go.RowKit Go.Proofs.YtbhgkpfbggkgdaaW.PrintWords Go.Proofs.YtbhgkpfbggkgdaaW.PrintLast Go.Proofs.YtbhgkpfbggkgdaaW.PrintMore
attribute [local go_sem] e1z d9z e4z e3z d5z d4z e0z d8z
set_option linter.unusedVariables false
set_option linter.unusedSimpArgs false
/-- A state of type 134 at block g of W; what its slices lead to came in by w0. -/
def a5z (w0 W : World) (g : Nat) (f0 : List Int) (f1 : Int) : Prop := ∃ A0 c0, W.heap[g]? = some (.cells #[.slice A0 f0.length c0, .int .i64 f1] 134 (0, 0)) ∧ w0.heap.size ≤ g ∧ Kd.C (Kd.int .u8) w0 A0 f0.length f0
theorem a5z.grown {w0 W : World} {g : Nat} {f0 : List Int} {f1 : Int} {W1 : World} {row : Option Nat} (h : a5z w0 W g f0 f1) (hw : W.grownBy W1 row) (hne : some g ≠ row) : a5z w0 W1 g f0 f1 := by
 obtain ⟨A0, c0, hb, hg, hr0⟩ := h
 exact ⟨A0, c0, g6z hb hw hne, hg, hr0⟩
theorem a5z.below {w0 W : World} {g : Nat} {f0 : List Int} {f1 : Int} {W1 : World} (h : a5z w0 W g f0 f1) (hw : Below W.heap.size W W1) : a5z w0 W1 g f0 f1 := h.grown (grown_of_below hw none) (by simp)
theorem a5z.drewN {w0 W : World} {g : Nat} {f0 : List Int} {f1 : Int} (h : a5z w0 W g f0 f1) (m : Nat) : a5z w0 (W.drewN m) g f0 f1 := h
theorem a5z.drew {w0 W : World} {g : Nat} {f0 : List Int} {f1 : Int} (h : a5z w0 W g f0 f1) : a5z w0 W.drew g f0 f1 := h
theorem a5z.apart {w0 W : World} {g : Nat} {f0 : List Int} {f1 : Int} {α : Type} {d : Kd α} {e : Nat} {base : Nat} {ok : Nat → Prop} {v : Value} {xs : List α} (h : a5z w0 W g f0 f1) (ho : d.R e W base ok v xs) (ht : ∀ q, q ∈ e :: d.E → q ≠ 134) : d.R e W base (fun k => ok k ∧ k ≠ g) v xs := by
 obtain ⟨A0, c0, hb, hg, hr0⟩ := h
 exact Kd.g5z ho hb ht
theorem a5z.own_ne {w0 W : World} {g : Nat} {f0 : List Int} {f1 : Int} {α : Type} {d : Kd α} {e : Nat} {base : Nat} {ok : Nat → Prop} {v : Value} {xs : List α} (h : a5z w0 W g f0 f1) (ho : d.R e W base ok v xs) (ht : e ≠ 134) : some g ≠ v.ownBlock := by
 obtain ⟨A0, c0, hb, hg, hr0⟩ := h
 exact Kd.R_ne ho hb ht
theorem a5z.lt {w0 W : World} {g : Nat} {f0 : List Int} {f1 : Int} (h : a5z w0 W g f0 f1) : g < W.heap.size := by
 obtain ⟨A0, c0, hb, hg, hr0⟩ := h
 exact f1z hb
theorem a5z.ge {w0 W : World} {g : Nat} {f0 : List Int} {f1 : Int} (h : a5z w0 W g f0 f1) : w0.heap.size ≤ g := by
 obtain ⟨A0, c0, hb, hg, hr0⟩ := h
 exact hg
theorem a5z.ne_blk {w0 W : World} {g : Nat} {f0 : List Int} {f1 : Int} {a : Nat} {cs : Array Value} {t : TypeId} {fr : Nat × Nat} (h : a5z w0 W g f0 f1) (hb2 : W.heap[a]? = some (.cells cs t fr)) (ht : t ≠ 134) : g ≠ a := by
 obtain ⟨A0, c0, hb, hg, hr0⟩ := h
 rintro rfl
 rw [hb] at hb2
 injection hb2 with hb2
 injection hb2 with _ ht2
 exact ht ht2.symm
theorem a5z.far {w0 W : World} {g : Nat} {f0 : List Int} {f1 : Int} {p : Addr} (h : a5z w0 W g f0 f1) (hne : g ≠ p.block) (u : Value) : a5z w0 (W.setCell p u) g f0 f1 := by
 obtain ⟨A0, c0, hb, hg, hr0⟩ := h
 exact ⟨A0, c0, f2z hb hne u, hg, hr0⟩
theorem cellS134_0 {W : World} {g : Nat} {A0 : Option Addr} {c0 : Nat} {f0 : List Int} {f1 : Int} (h : W.heap[g]? = some (.cells #[.slice A0 f0.length c0, .int .i64 f1] 134 (0, 0))) : W.cell? ⟨g, 0, none⟩ = some (.slice A0 f0.length c0) := (a8z h 0).trans rfl
theorem cellS134_1 {W : World} {g : Nat} {A0 : Option Addr} {c0 : Nat} {f0 : List Int} {f1 : Int} (h : W.heap[g]? = some (.cells #[.slice A0 f0.length c0, .int .i64 f1] 134 (0, 0))) : W.cell? ⟨g, 1, none⟩ = some (.int .i64 f1) := (a8z h 1).trans rfl
theorem a5z.set_1 {w0 W : World} {g : Nat} {f0 : List Int} {f1 : Int} (h : a5z w0 W g f0 f1) (x : Int) : a5z w0 (W.setCell ⟨g, 1, none⟩ (.int .i64 x)) g f0 x := by
 obtain ⟨A0, c0, hb, hg, hr0⟩ := h
 exact ⟨A0, c0, by simpa using blk_set hb 1 (.int .i64 x), hg, hr0⟩
def spec_l1Rd_pick.j0 : Nat → Int → Bool → List Int → Int → Option (Int × Int)
 | 0, _, _, _, _ => none
 | k + 1, x1, x24, x1000, x1001 => if x24 = true then (some (0, x1001)) else (if (wrap64 (x1001 - 1)) < (x1000.length : Int) then (if 0 ≤ (wrap64 (x1001 - 1)) then (if x1 = 0 then (none) else (some (Int.tmod (wrap64 (rd x1000 (wrap64 (x1001 - 1)))) x1, x1001))) else (none)) else (if (x1000.length : Int) = 0 then (none) else (if 0 ≤ (Int.tmod (wrap64 (x1001 - 1)) (x1000.length : Int)) then (if (Int.tmod (wrap64 (x1001 - 1)) (x1000.length : Int)) < (x1000.length : Int) then (if 0 ≤ (Int.tmod (wrap64 ((wrap64 ((wrap64 (x1001 - 1)) * 7)) + 3)) (x1000.length : Int)) then (if (Int.tmod (wrap64 ((wrap64 ((wrap64 (x1001 - 1)) * 7)) + 3)) (x1000.length : Int)) < (x1000.length : Int) then (if x1 = 0 then (none) else (some (Int.tmod (Go.bits .xor .i64 (wrap64 ((wrap64 ((wrap64 ((wrap64 ((wrap64 (rd x1000 (Int.tmod (wrap64 (x1001 - 1)) (x1000.length : Int)))) * 131)) + (wrap64 ((wrap64 (rd x1000 (Int.tmod (wrap64 ((wrap64 ((wrap64 (x1001 - 1)) * 7)) + 3)) (x1000.length : Int)))) * 1117)))) + (wrap64 ((wrap64 (x1001 - 1)) * 29)))) + (wrap64 ((wrap64 (Int.tdiv (wrap64 (x1001 - 1)) (x1000.length : Int))) * 53)))) (wrap64 (Int.tdiv (wrap64 ((wrap64 ((wrap64 ((wrap64 ((wrap64 (rd x1000 (Int.tmod (wrap64 (x1001 - 1)) (x1000.length : Int)))) * 131)) + (wrap64 ((wrap64 (rd x1000 (Int.tmod (wrap64 ((wrap64 ((wrap64 (x1001 - 1)) * 7)) + 3)) (x1000.length : Int)))) * 1117)))) + (wrap64 ((wrap64 (x1001 - 1)) * 29)))) + (wrap64 ((wrap64 (Int.tdiv (wrap64 (x1001 - 1)) (x1000.length : Int))) * 53)))) 64))) x1, x1001))) else (none)) else (none)) else (none)) else (none))))
def spec_l1Rd_pick.f (k : Nat) (s0_0 : List Int) (s0_1 : Int) (a1 : Int) : Option (Int × Int) := if a1 < 1 then (spec_l1Rd_pick.j0 k a1 true s0_0 (wrap64 (s0_1 + 1))) else (spec_l1Rd_pick.j0 k a1 ((s0_0.length : Int) == 0) s0_0 (wrap64 (s0_1 + 1)))
set_option maxHeartbeats 8000000 in
set_option maxRecDepth 100000 in
theorem spec_l1Rd_pick.calls (k : Nat) (g : Nat) (s0_0 : List Int) (s0_1 : Int) (a1 : Int) (r1 : Int) (r2 : Int) (w0 w : World) (hI : a5z w0 w g s0_0 s0_1) (hB : Below w0.heap.size w0 w) (h : spec_l1Rd_pick.f k s0_0 s0_1 a1 = some (r1, r2)) :
  Calls Try.prog 89 #[.pointer (some ⟨g, 0, none⟩), .int .i64 a1] w fun e w' => e = .returned (.int .i64 r1) ∧ a5z w0 w' g s0_0 r2 ∧ Below w0.heap.size w0 w' ∧ b8z w w' g none := by
 have HI0 := a1z.mk hI
 have HK := a1z.mk (b8z.refl w g none)
 have HL := a1z.mk hB.size
 clear hI
 have HW0 := a1z.mk hB.size
 have HB := a1z.mk hB
 clear hB
 have H : (if a1 < 1 then (spec_l1Rd_pick.j0 k a1 true s0_0 (wrap64 (s0_1 + 1))) else (spec_l1Rd_pick.j0 k a1 ((s0_0.length : Int) == 0) s0_0 (wrap64 (s0_1 + 1)))) = some (r1, r2) := h
 clear h
 have HC3 := a1z.mk H
 clear H
 obtain ⟨ASz4_0, cSz4_0, HGz4, hgz4, HSz4_0⟩ := HI0.1
 have hcz4_0 := cellS134_0 HGz4
 have hcz4_1 := cellS134_1 HGz4
 have hfz4_1 := a9z HGz4 1
 clear HGz4 hgz4
 go_enter Try.func89, Try.ntmps89
 go_upto_region 2 with (fail)
 repeat (go_quiet (fail); go_upto_region 2 with (fail))
 go_cut [24] (fun v24 wc => ∃ (kq : Nat) (x24_2 : Bool), v24 = .bool x24_2 ∧ a1z (spec_l1Rd_pick.j0 kq a1 x24_2 s0_0 (wrap64 (s0_1 + 1)) = some (r1, r2)) ∧ a1z (kq ≤ k) ∧ a1z (a5z w0 wc g s0_0 (wrap64 (s0_1 + 1))) ∧ a1z (b8z w wc g none) ∧ a1z (Below w0.heap.size w0 wc))
 case first =>
  have H := HC3.1
  clear HC3
  by_cases c5 : a1 < 1
  ·rw [if_pos c5] at H
   have c5b0 : decide (a1 < 1) = true := decide_eq_true c5
   clear c5
   (first | rw [c5b0] | (simp only [i64_w, i32_w]; rw [c5b0]) | skip)
   have H' := a1z.mk H
   clear H
   go_wp2
   repeat (go_quiet (fail); try go_wp2)
   go_meet
   case rel => exact ⟨_, (true), (by first | rfl | (simp; done) | (simp [*]; done)), H', ⟨by first | omega | exact Nat.le_refl _⟩, ⟨by repeat (first | (with_reducible first | exact HI0.1 | apply a5z.alloc | apply a5z.drewN | apply a5z.drew | apply a5z.set_1) | exact HI0.1)⟩, ⟨by repeat (first | (with_reducible first | exact HK.1 | apply b8z.set_ | apply c3z | apply c4z | apply keep_alloc) | exact HK.1)⟩, ⟨by repeat (first | (with_reducible first | exact HB.1 | apply a3z | apply a0z | apply a2z | refine a4z ?_ (a5z.ge HI0.1)) | exact HB.1)⟩⟩
  ·rw [if_neg c5] at H
   have c5b0 : decide (a1 < 1) = false := decide_eq_false c5
   clear c5
   (first | rw [c5b0] | (simp only [i64_w, i32_w]; rw [c5b0]) | skip)
   have H' := a1z.mk H
   clear H
   obtain ⟨ASz6_0, cSz6_0, HGz6, hgz6, HSz6_0⟩ := HI0.1
   have hcz6_0 := cellS134_0 HGz6
   have hcz6_1 := cellS134_1 HGz6
   have hfz6_1 := a9z HGz6 1
   clear HGz6 hgz6
   go_wp2
   repeat (go_quiet (fail); try go_wp2)
   go_meet
   case rel => exact ⟨_, (((s0_0.length : Int) == 0)), (by first | rfl | (simp; done) | (simp [*]; done)), H', ⟨by first | omega | exact Nat.le_refl _⟩, ⟨by repeat (first | (with_reducible first | exact HI0.1 | apply a5z.alloc | apply a5z.drewN | apply a5z.drew | apply a5z.set_1) | exact HI0.1)⟩, ⟨by repeat (first | (with_reducible first | exact HK.1 | apply b8z.set_ | apply c3z | apply c4z | apply keep_alloc) | exact HK.1)⟩, ⟨by repeat (first | (with_reducible first | exact HB.1 | apply a3z | apply a0z | apply a2z | refine a4z ?_ (a5z.ge HI0.1)) | exact HB.1)⟩⟩
 case rest =>
  clear HC3
  try clear p2
  try clear c5
  try clear c5b0
  try clear p6
  try clear hcz4_0
  try clear hcz4_1
  try clear hcz6_0
  try clear hcz6_1
  try clear hfz4_1
  try clear hfz6_1
  obtain ⟨kq, x24_2, rfl, HA, HJ2, HI0, HK, HB⟩ := hcut
  cases kq with
  | zero => exact absurd HA.1 (by simp [spec_l1Rd_pick.j0])
  | succ kj2 =>
   have H := HA.1
   clear HA
   simp only [spec_l1Rd_pick.j0] at H
   by_cases c7 : x24_2 = true
   ·subst c7
    have H1 : (some (0, (wrap64 (s0_1 + 1)))) = some (r1, r2) := by rw [if_pos rfl] at H; exact H
    clear H
    have H := H1
    clear H1
    simp only [Option.some.injEq, Prod.mk.injEq] at H
    obtain ⟨rfl, rfl⟩ := H
    go_wp2
    repeat (go_quiet (fail); try go_wp2)
    go_ret
    exact ⟨by first | rfl | (simp [c1z, c0z] <;> rfl) | (simp [*, c1z, c0z] <;> rfl), by repeat (first | (with_reducible first | exact HI0.1 | apply a5z.alloc | apply a5z.drewN | apply a5z.drew | apply a5z.set_1) | exact HI0.1), by repeat (first | (with_reducible first | exact HB.1 | apply a3z | apply a0z | apply a2z | refine a4z ?_ (a5z.ge HI0.1)) | exact HB.1), by repeat (first | (with_reducible first | exact HK.1 | apply b8z.set_ | apply c3z | apply c4z | apply keep_alloc) | exact HK.1)⟩
   ·replace c7 := Bool.eq_false_iff.mpr c7
    subst c7
    have H1 : (if (wrap64 ((wrap64 (s0_1 + 1)) - 1)) < (s0_0.length : Int) then (if 0 ≤ (wrap64 ((wrap64 (s0_1 + 1)) - 1)) then (if a1 = 0 then (none) else (some (Int.tmod (wrap64 (rd s0_0 (wrap64 ((wrap64 (s0_1 + 1)) - 1)))) a1, (wrap64 (s0_1 + 1))))) else (none)) else (if (s0_0.length : Int) = 0 then (none) else (if 0 ≤ (Int.tmod (wrap64 ((wrap64 (s0_1 + 1)) - 1)) (s0_0.length : Int)) then (if (Int.tmod (wrap64 ((wrap64 (s0_1 + 1)) - 1)) (s0_0.length : Int)) < (s0_0.length : Int) then (if 0 ≤ (Int.tmod (wrap64 ((wrap64 ((wrap64 ((wrap64 (s0_1 + 1)) - 1)) * 7)) + 3)) (s0_0.length : Int)) then (if (Int.tmod (wrap64 ((wrap64 ((wrap64 ((wrap64 (s0_1 + 1)) - 1)) * 7)) + 3)) (s0_0.length : Int)) < (s0_0.length : Int) then (if a1 = 0 then (none) else (some (Int.tmod (Go.bits .xor .i64 (wrap64 ((wrap64 ((wrap64 ((wrap64 ((wrap64 (rd s0_0 (Int.tmod (wrap64 ((wrap64 (s0_1 + 1)) - 1)) (s0_0.length : Int)))) * 131)) + (wrap64 ((wrap64 (rd s0_0 (Int.tmod (wrap64 ((wrap64 ((wrap64 ((wrap64 (s0_1 + 1)) - 1)) * 7)) + 3)) (s0_0.length : Int)))) * 1117)))) + (wrap64 ((wrap64 ((wrap64 (s0_1 + 1)) - 1)) * 29)))) + (wrap64 ((wrap64 (Int.tdiv (wrap64 ((wrap64 (s0_1 + 1)) - 1)) (s0_0.length : Int))) * 53)))) (wrap64 (Int.tdiv (wrap64 ((wrap64 ((wrap64 ((wrap64 ((wrap64 (rd s0_0 (Int.tmod (wrap64 ((wrap64 (s0_1 + 1)) - 1)) (s0_0.length : Int)))) * 131)) + (wrap64 ((wrap64 (rd s0_0 (Int.tmod (wrap64 ((wrap64 ((wrap64 ((wrap64 (s0_1 + 1)) - 1)) * 7)) + 3)) (s0_0.length : Int)))) * 1117)))) + (wrap64 ((wrap64 ((wrap64 (s0_1 + 1)) - 1)) * 29)))) + (wrap64 ((wrap64 (Int.tdiv (wrap64 ((wrap64 (s0_1 + 1)) - 1)) (s0_0.length : Int))) * 53)))) 64))) a1, (wrap64 (s0_1 + 1))))) else (none)) else (none)) else (none)) else (none)))) = some (r1, r2) := by rw [if_neg (show ¬ (false = true) by decide)] at H; exact H
    clear H
    have H := H1
    clear H1
    by_cases c8 : (wrap64 ((wrap64 (s0_1 + 1)) - 1)) < (s0_0.length : Int)
    ·rw [if_pos c8] at H
     have c8b0 : decide ((wrap64 ((wrap64 (s0_1 + 1)) - 1)) < (s0_0.length : Int)) = true := decide_eq_true c8
     clear c8
     obtain ⟨ji9, hji9⟩ : ∃ j_ : Int, (wrap64 ((wrap64 (s0_1 + 1)) - 1)) = j_ := ⟨_, rfl⟩
     replace H : (if 0 ≤ (ji9) then (if a1 = 0 then (none) else (some (Int.tmod (wrap64 (rd s0_0 (ji9))) a1, (wrap64 (s0_1 + 1))))) else (none)) = some (r1, r2) := by first | (rw [hji9] at H; exact H) | (simp only [hji9] at H ⊢; exact H)
     (try rw [hji9] at c8b0)
     have hji9w : (IntKind.i64.wrap ((wrap64 (s0_1 + 1)) - 1)) = ji9 := (i64_w _).trans hji9
     by_cases c10 : 0 ≤ (ji9)
     ·rw [if_pos c10] at H
      have c10b0 : decide (0 ≤ (ji9)) = true := decide_eq_true c10
      clear c10
      by_cases c11 : a1 = 0
      ·rw [if_pos c11] at H
       exact absurd H (by simp)
      ·rw [if_neg c11] at H
       have c11b0 : (a1 == 0) = false := beq_eq_false_iff_ne.mpr c11
       have c11b1 : (a1 != 0) = true := bne_iff_ne.mpr c11
       simp only [Option.some.injEq, Prod.mk.injEq] at H
       obtain ⟨rfl, rfl⟩ := H
       obtain ⟨ASz12_0, cSz12_0, HGz12, hgz12, HSz12_0⟩ := HI0.1
       have hcz12_0 := cellS134_0 HGz12
       have hcz12_1 := cellS134_1 HGz12
       have hfz12_1 := a9z HGz12 1
       clear HGz12 hgz12
       have p101 : 0 ≤ ((ji9) : Int) := of_decide_eq_true (by first | (with_reducible assumption) | assumption)
       have q101 : (ji9) < (s0_0.length : Int) := of_decide_eq_true (by first | (with_reducible assumption) | assumption)
       obtain ⟨ad101, e101, hx101_0⟩ := Kd.at_int HSz12_0 (ji9) p101 q101
       cases e101
       replace hx101_0 := pw_cell_below HB.1 hx101_0
       replace p101 := eq_true p101
       replace q101 := eq_true q101
       go_wp2
       repeat (go_quiet (fail); try go_wp2)
       go_ret
       exact ⟨by first | rfl | (simp [c1z, c0z] <;> rfl) | (simp only [← hji9]; first | rfl | (simp [c1z, c0z] <;> rfl)) | (simp [*, c1z, c0z] <;> rfl), by repeat (first | (with_reducible first | exact HI0.1 | apply a5z.alloc | apply a5z.drewN | apply a5z.drew | apply a5z.set_1) | exact HI0.1), by repeat (first | (with_reducible first | exact HB.1 | apply a3z | apply a0z | apply a2z | refine a4z ?_ (a5z.ge HI0.1)) | exact HB.1), by repeat (first | (with_reducible first | exact HK.1 | apply b8z.set_ | apply c3z | apply c4z | apply keep_alloc) | exact HK.1)⟩
     ·rw [if_neg c10] at H
      exact absurd H (by simp)
    ·rw [if_neg c8] at H
     have c8b0 : decide ((wrap64 ((wrap64 (s0_1 + 1)) - 1)) < (s0_0.length : Int)) = false := decide_eq_false c8
     clear c8
     by_cases c13 : (s0_0.length : Int) = 0
     ·rw [if_pos c13] at H
      exact absurd H (by simp)
     ·rw [if_neg c13] at H
      have c13b0 : ((s0_0.length : Int) == 0) = false := beq_eq_false_iff_ne.mpr c13
      have c13b1 : ((s0_0.length : Int) != 0) = true := bne_iff_ne.mpr c13
      have c13b2 : ¬ (s0_0 = []) := fun h_ => c13 (by rw [h_]; rfl)
      obtain ⟨ji14, hji14⟩ : ∃ j_ : Int, (Int.tmod (wrap64 ((wrap64 (s0_1 + 1)) - 1)) (s0_0.length : Int)) = j_ := ⟨_, rfl⟩
      replace H : (if 0 ≤ (ji14) then (if (ji14) < (s0_0.length : Int) then (if 0 ≤ (Int.tmod (wrap64 ((wrap64 ((wrap64 ((wrap64 (s0_1 + 1)) - 1)) * 7)) + 3)) (s0_0.length : Int)) then (if (Int.tmod (wrap64 ((wrap64 ((wrap64 ((wrap64 (s0_1 + 1)) - 1)) * 7)) + 3)) (s0_0.length : Int)) < (s0_0.length : Int) then (if a1 = 0 then (none) else (some (Int.tmod (Go.bits .xor .i64 (wrap64 ((wrap64 ((wrap64 ((wrap64 ((wrap64 (rd s0_0 (ji14))) * 131)) + (wrap64 ((wrap64 (rd s0_0 (Int.tmod (wrap64 ((wrap64 ((wrap64 ((wrap64 (s0_1 + 1)) - 1)) * 7)) + 3)) (s0_0.length : Int)))) * 1117)))) + (wrap64 ((wrap64 ((wrap64 (s0_1 + 1)) - 1)) * 29)))) + (wrap64 ((wrap64 (Int.tdiv (wrap64 ((wrap64 (s0_1 + 1)) - 1)) (s0_0.length : Int))) * 53)))) (wrap64 (Int.tdiv (wrap64 ((wrap64 ((wrap64 ((wrap64 ((wrap64 (rd s0_0 (ji14))) * 131)) + (wrap64 ((wrap64 (rd s0_0 (Int.tmod (wrap64 ((wrap64 ((wrap64 ((wrap64 (s0_1 + 1)) - 1)) * 7)) + 3)) (s0_0.length : Int)))) * 1117)))) + (wrap64 ((wrap64 ((wrap64 (s0_1 + 1)) - 1)) * 29)))) + (wrap64 ((wrap64 (Int.tdiv (wrap64 ((wrap64 (s0_1 + 1)) - 1)) (s0_0.length : Int))) * 53)))) 64))) a1, (wrap64 (s0_1 + 1))))) else (none)) else (none)) else (none)) else (none)) = some (r1, r2) := by first | (rw [hji14] at H; exact H) | (simp only [hji14] at H ⊢; exact H)
      by_cases c15 : 0 ≤ (ji14)
      ·rw [if_pos c15] at H
       have c15b0 : decide (0 ≤ (ji14)) = true := decide_eq_true c15
       clear c15
       by_cases c16 : (ji14) < (s0_0.length : Int)
       ·rw [if_pos c16] at H
        have c16b0 : decide ((ji14) < (s0_0.length : Int)) = true := decide_eq_true c16
        clear c16
        obtain ⟨ji17, hji17⟩ : ∃ j_ : Int, (Int.tmod (wrap64 ((wrap64 ((wrap64 ((wrap64 (s0_1 + 1)) - 1)) * 7)) + 3)) (s0_0.length : Int)) = j_ := ⟨_, rfl⟩
        replace H : (if 0 ≤ (ji17) then (if (ji17) < (s0_0.length : Int) then (if a1 = 0 then (none) else (some (Int.tmod (Go.bits .xor .i64 (wrap64 ((wrap64 ((wrap64 ((wrap64 ((wrap64 (rd s0_0 (ji14))) * 131)) + (wrap64 ((wrap64 (rd s0_0 (ji17))) * 1117)))) + (wrap64 ((wrap64 ((wrap64 (s0_1 + 1)) - 1)) * 29)))) + (wrap64 ((wrap64 (Int.tdiv (wrap64 ((wrap64 (s0_1 + 1)) - 1)) (s0_0.length : Int))) * 53)))) (wrap64 (Int.tdiv (wrap64 ((wrap64 ((wrap64 ((wrap64 ((wrap64 (rd s0_0 (ji14))) * 131)) + (wrap64 ((wrap64 (rd s0_0 (ji17))) * 1117)))) + (wrap64 ((wrap64 ((wrap64 (s0_1 + 1)) - 1)) * 29)))) + (wrap64 ((wrap64 (Int.tdiv (wrap64 ((wrap64 (s0_1 + 1)) - 1)) (s0_0.length : Int))) * 53)))) 64))) a1, (wrap64 (s0_1 + 1))))) else (none)) else (none)) = some (r1, r2) := by first | (rw [hji17] at H; exact H) | (simp only [hji17] at H ⊢; exact H)
        by_cases c18 : 0 ≤ (ji17)
        ·rw [if_pos c18] at H
         have c18b0 : decide (0 ≤ (ji17)) = true := decide_eq_true c18
         clear c18
         by_cases c19 : (ji17) < (s0_0.length : Int)
         ·rw [if_pos c19] at H
          have c19b0 : decide ((ji17) < (s0_0.length : Int)) = true := decide_eq_true c19
          clear c19
          by_cases c20 : a1 = 0
          ·rw [if_pos c20] at H
           exact absurd H (by simp)
          ·rw [if_neg c20] at H
           have c20b0 : (a1 == 0) = false := beq_eq_false_iff_ne.mpr c20
           have c20b1 : (a1 != 0) = true := bne_iff_ne.mpr c20
           simp only [Option.some.injEq, Prod.mk.injEq] at H
           obtain ⟨rfl, rfl⟩ := H
           obtain ⟨ASz21_0, cSz21_0, HGz21, hgz21, HSz21_0⟩ := HI0.1
           have hcz21_0 := cellS134_0 HGz21
           have hcz21_1 := cellS134_1 HGz21
           have hfz21_1 := a9z HGz21 1
           clear HGz21 hgz21
           have p102 : 0 ≤ ((ji14) : Int) := of_decide_eq_true (by first | (with_reducible assumption) | assumption)
           have q102 : (ji14) < (s0_0.length : Int) := of_decide_eq_true (by first | (with_reducible assumption) | assumption)
           obtain ⟨ad102, e102, hx102_0⟩ := Kd.at_int HSz21_0 (ji14) p102 q102
           cases e102
           replace hx102_0 := pw_cell_below HB.1 hx102_0
           replace p102 := eq_true p102
           replace q102 := eq_true q102
           have p103 : 0 ≤ ((ji17) : Int) := of_decide_eq_true (by first | (with_reducible assumption) | assumption)
           have q103 : (ji17) < (s0_0.length : Int) := of_decide_eq_true (by first | (with_reducible assumption) | assumption)
           obtain ⟨ad103, e103, hx103_0⟩ := Kd.at_int HSz21_0 (ji17) p103 q103
           obtain rfl : ad102 = ad103 := (by injection e103)
           replace hx103_0 := pw_cell_below HB.1 hx103_0
           replace p103 := eq_true p103
           replace q103 := eq_true q103
           go_wp2
           repeat (go_quiet (fail); try go_wp2)
           go_ret
           exact ⟨by first | rfl | (simp [c1z, c0z] <;> rfl) | (simp only [← hji14, ← hji17]; first | rfl | (simp [c1z, c0z] <;> rfl)) | (simp [*, c1z, c0z] <;> rfl), by repeat (first | (with_reducible first | exact HI0.1 | apply a5z.alloc | apply a5z.drewN | apply a5z.drew | apply a5z.set_1) | exact HI0.1), by repeat (first | (with_reducible first | exact HB.1 | apply a3z | apply a0z | apply a2z | refine a4z ?_ (a5z.ge HI0.1)) | exact HB.1), by repeat (first | (with_reducible first | exact HK.1 | apply b8z.set_ | apply c3z | apply c4z | apply keep_alloc) | exact HK.1)⟩
         ·rw [if_neg c19] at H
          exact absurd H (by simp)
        ·rw [if_neg c18] at H
         exact absurd H (by simp)
       ·rw [if_neg c16] at H
        exact absurd H (by simp)
      ·rw [if_neg c15] at H
       exact absurd H (by simp)
end Go.Proofs.Ytbhgkpfbggkgdaa.Q

namespace Go.Proofs.Ytbhgkpfbggkgdaa.Q
open Go.RowKit Go.Proofs.YtbhgkpfbggkgdaaW.PrintWords Go.Proofs.YtbhgkpfbggkgdaaW.PrintLast Go.Proofs.YtbhgkpfbggkgdaaW.PrintMore
attribute [local go_sem] e1z d9z e4z e3z d5z d4z e0z d8z
set_option linter.unusedVariables false
set_option linter.unusedSimpArgs false
def spec_l1Rd_one.f (k : Nat) (s0_0 : List Int) (s0_1 : Int) (l1 : List Int) : Option (Int × Int) := (spec_l1Rd_pick.f k s0_0 s0_1 (l1.length : Int)).bind fun bt101 => (if 0 ≤ bt101.1 then (if bt101.1 < (l1.length : Int) then (some (rd l1 bt101.1, bt101.2)) else (none)) else (none))
set_option maxHeartbeats 8000000 in
set_option maxRecDepth 100000 in
theorem spec_l1Rd_one.calls (k : Nat) (g : Nat) (s0_0 : List Int) (s0_1 : Int) (A1 : Option Addr) (c1 : Nat) (l1 : List Int) (r1 : Int) (r2 : Int) (w0 w : World) (hI : a5z w0 w g s0_0 s0_1) (hB : Below w0.heap.size w0 w) (hr1 : Kd.C (Kd.int .i64) w A1 l1.length l1) (hc1 : l1.length ≤ c1) (hf1 : ∀ ad, A1 = some ad → 0 < l1.length → ad.block ≠ g) (h : spec_l1Rd_one.f k s0_0 s0_1 l1 = some (r1, r2)) :
  Calls Try.prog 102 #[.pointer (some ⟨g, 0, none⟩), .slice A1 l1.length c1] w fun e w' => e = .returned (.int .i64 r1) ∧ a5z w0 w' g s0_0 r2 ∧ Below w0.heap.size w0 w' ∧ b8z w w' g none := by
 have HR1 := a1z.mk hr1
 have HC1 := a1z.mk hc1
 clear hr1 hc1
 have HI0 := a1z.mk hI
 have HK := a1z.mk (b8z.refl w g none)
 have HL := a1z.mk hB.size
 clear hI
 have HW0 := a1z.mk hB.size
 have HB := a1z.mk hB
 clear hB
 have H : ((spec_l1Rd_pick.f k s0_0 s0_1 (l1.length : Int)).bind fun bt101 => (if 0 ≤ bt101.1 then (if bt101.1 < (l1.length : Int) then (some (rd l1 bt101.1, bt101.2)) else (none)) else (none))) = some (r1, r2) := h
 clear h
 replace H := Option.bind_eq_some_iff.mp H
 obtain ⟨⟨t101, t102⟩, A30, H⟩ := H
 replace H : (if 0 ≤ t101 then (if t101 < (l1.length : Int) then (some (rd l1 t101, t102)) else (none)) else (none)) = some (r1, r2) := H
 have A3 := a1z.mk A30
 clear A30
 by_cases c4 : 0 ≤ t101
 ·rw [if_pos c4] at H
  have c4b0 : decide (0 ≤ t101) = true := decide_eq_true c4
  clear c4
  by_cases c5 : t101 < (l1.length : Int)
  ·rw [if_pos c5] at H
   have c5b0 : decide (t101 < (l1.length : Int)) = true := decide_eq_true c5
   clear c5
   simp only [Option.some.injEq, Prod.mk.injEq] at H
   obtain ⟨rfl, rfl⟩ := H
   go_enter Try.func102, Try.ntmps102
   go_wp2_with (first | ((with_reducible refine c2z (f := 89) rfl ?_); refine d1z (some 9) rfl rfl Try.func89 (by kernel_rfl) rfl #[.pointer (some ⟨g, 0, none⟩), .int .i64 (l1.length : Int)] rfl (by (try simp only [List.map_toArray, List.map_cons, List.map_nil]); first | done | rfl | (simp only [List.length_drop, List.length_take]; rfl)) ?_; (with_reducible refine (spec_l1Rd_pick.calls k g s0_0 s0_1 (l1.length : Int) t101 t102 w0 _ ?side1 ?side2 A3.1).mono ?_); (case side1 => repeat (first | (with_reducible first | exact HI0.1 | apply a5z.alloc | apply a5z.drewN | apply a5z.drew | apply a5z.set_1) | exact HI0.1)); (case side2 => repeat (first | (with_reducible first | exact HB.1 | apply a3z | apply a0z | apply a2z | refine a4z ?_ (a5z.ge HI0.1)) | exact HB.1)); rintro e w6 ⟨rfl, hi, hb, hk⟩; refine ⟨_, rfl, ?_⟩; have n0_ := a1z.mk (b8z.trans (by repeat (first | (with_reducible first | exact HK.1 | apply b8z.set_ | apply c3z | apply c4z | apply keep_alloc) | exact HK.1)) hk (.inl rfl)); have n1_ := a1z.mk (hb); have n2_ := a1z.mk (hi); clear HK; clear HB; clear HI0; have HK := n0_; have HB := n1_; have HI0 := n2_; clear n0_ n1_ n2_; (try clear hb); (try clear hb2); (try clear hk); (try clear hi); have p103 : 0 ≤ (t101 : Int) := of_decide_eq_true (by first | (with_reducible assumption) | assumption); have q103 : t101 < (l1.length : Int) := of_decide_eq_true (by first | (with_reducible assumption) | assumption); obtain ⟨ad103, e103, hx103_0⟩ := Kd.at_int HR1.1 t101 p103 q103; cases e103; replace hx103_0 := keep_cell HK.1 hx103_0 (by first | (rw [add_block]; exact hf1 _ rfl (by omega)) | exact hf1 _ rfl (by omega) | exact hf1 ad103 rfl (by omega)); replace p103 := eq_true p103; replace q103 := eq_true q103))
   go_ret
   exact ⟨by first | rfl | (simp [c1z, c0z] <;> rfl) | (simp [*, c1z, c0z] <;> rfl), by repeat (first | (with_reducible first | exact HI0.1 | apply a5z.alloc | apply a5z.drewN | apply a5z.drew | apply a5z.set_1) | exact HI0.1), by repeat (first | (with_reducible first | exact HB.1 | apply a3z | apply a0z | apply a2z | refine a4z ?_ (a5z.ge HI0.1)) | exact HB.1), by repeat (first | (with_reducible first | exact HK.1 | apply b8z.set_ | apply c3z | apply c4z | apply keep_alloc) | exact HK.1)⟩
  ·rw [if_neg c5] at H
   exact absurd H (by simp)
 ·rw [if_neg c4] at H
  exact absurd H (by simp)
end Go.Proofs.Ytbhgkpfbggkgdaa.Q

namespace Go.Proofs.Ytbhgkpfbggkgdaa.Q
open Go.RowKit Go.Proofs.YtbhgkpfbggkgdaaW.PrintWords Go.Proofs.YtbhgkpfbggkgdaaW.PrintLast Go.Proofs.YtbhgkpfbggkgdaaW.PrintMore
attribute [local go_sem] e1z d9z e4z e3z d5z d4z e0z d8z
set_option linter.unusedVariables false
set_option linter.unusedSimpArgs false
def spec_l1Over.f (k : Nat) (a0 : Int) (a1 : Int) : Option (Int × Int) := (spec_l1Size.f k a1).bind fun t102 => (if t102 = 0 then (none) else ((spec_l1Size.f k a1).bind fun t103 => (some (wrap64 ((wrap64 (Int.tdiv a0 t102)) * t103), a1))))
def spec_l1Over.T1 : Bool × List (List Nat × List Nat) := (true, [([], []), ([], []), ([1], [1]), ([0, 2], [0, 2]), ([], []), ([4, 2], [4]), ([3, 5], [3, 5]), ([], []), ([6, 7], [6, 7]), ([8, 5, 0, 1, 2, 3, 4, 5, 6, 7, 8], [8])])
def spec_l1Over.B1 : List Nat := [0, 0, 2, 7, 0, 22, 63, 0, 255, 511]
theorem spec_l1Over.tab1 : rtab .any (opsOf Try.f60 1) = spec_l1Over.T1 := by kernel_rfl
theorem spec_l1Over.bits1 : waitsOk spec_l1Over.T1.2 spec_l1Over.B1 = true := by kernel_rfl
set_option maxHeartbeats 8000000 in
set_option maxRecDepth 100000 in
theorem spec_l1Over.calls (k : Nat) (a0 : Int) (a1 : Int) (r1 : Int) (r2 : Int) (w : World) (h : spec_l1Over.f k a0 a1 = some (r1, r2)) :
  Calls Try.prog 60 #[.int .i64 a0, .int .i64 a1] w fun e w' => e = .returned (.agg #[.int .i64 r1, .int .i64 r2]) ∧ Below w.heap.size w w' := by
 have hu24 := Try.underlying24
 have HB := a1z.mk (Below.refl w.heap.size w)
 have H : ((spec_l1Size.f k a1).bind fun t102 => (if t102 = 0 then (none) else ((spec_l1Size.f k a1).bind fun t103 => (some (wrap64 ((wrap64 (Int.tdiv a0 t102)) * t103), a1))))) = some (r1, r2) := h
 clear h
 replace H := Option.bind_eq_some_iff.mp H
 obtain ⟨t102, A30, H⟩ := H
 replace H : (if t102 = 0 then (none) else ((spec_l1Size.f k a1).bind fun t103 => (some (wrap64 ((wrap64 (Int.tdiv a0 t102)) * t103), a1)))) = some (r1, r2) := H
 have A3 := a1z.mk A30
 clear A30
 by_cases c4 : t102 = 0
 ·rw [if_pos c4] at H
  exact absurd H (by simp)
 ·rw [if_neg c4] at H
  have c4b0 : (t102 == 0) = false := beq_eq_false_iff_ne.mpr c4
  have c4b1 : (t102 != 0) = true := bne_iff_ne.mpr c4
  replace H := Option.bind_eq_some_iff.mp H
  obtain ⟨t103, A50, H⟩ := H
  replace H : (some (wrap64 ((wrap64 (Int.tdiv a0 t102)) * t103), a1)) = some (r1, r2) := H
  have A5 := a1z.mk A50
  clear A50
  simp only [Option.some.injEq, Prod.mk.injEq] at H
  obtain ⟨rfl, rfl⟩ := H
  go_enter Try.func60, Try.ntmps60
  try go_wp2_with (first | ((with_reducible refine c9z (N := 4) rfl ?_); refine d0z ?hg (N := 4) ?hd (cs := #[.int .i64 0, .int .i64 0]) (t := 24) ?hr ?_; (case hd => rfl); (case hg => rfl); (case hr => first | (go_simp; done) | (go_simp; rfl)); intro gb101 hg w6 hbox hb; have n0_ := a1z.mk (b5z (by repeat (first | (with_reducible first | exact HB.1 | apply a3z | apply a0z | apply a2z) | exact HB.1)) hb); have n1_ := a1z.mk (hbox); have n2_ := a1z.mk ((by rw [hg]; exact (b4z (by repeat (first | (with_reducible first | exact HB.1 | apply a3z | apply a0z | apply a2z) | exact HB.1))) : w.heap.size ≤ gb101)); have n3_ := a1z.mk ((by rw [hg]; exact (b4z (by repeat (first | (with_reducible first | exact HB.1 | apply a3z | apply a0z | apply a2z) | exact HB.1))) : w.heap.size ≤ gb101)); clear HB; have HB := n0_; have BK101 := n1_; have GW101 := n2_; have GE101 := n3_; clear n0_ n1_ n2_ n3_; clear hb hbox hg))
  have n0_ := a1z.mk (a7z BK101.1)
  have n1_ := a1z.mk (a2z HB.1)
  clear BK101
  clear HB
  have BK101 := n0_
  have HB := n1_
  clear n0_ n1_
  refine f7z (n := 10) (S := fun w' => True) (ds := []) #[false, false, false, false, false, false, false, false, false, false] (by kernel_rfl) rfl rfl trivial (fun hHeld => ?_); refine e8z spec_l1Over.tab1 spec_l1Over.bits1 (fun HT_ HW_ => ?_)
  generalize w6.drew = w7 at BK101 HB hHeld ⊢
  refine pure_ (i := 0) (N := some 5) (v := ?_) (a' := ?_) #[true, false, false, false, false, false, false, false, false, false] rfl rfl (b3z HT_.1 (by kernel_rfl)) (fun _ _ _ h => h) (Or.inl ⟨by rfl, ?_⟩) ?_ ?_
  rotate_left
  ·intro w'
   go_simp
   with_reducible rfl
  rotate_left
  ·simp only [Act.put, sA_, sZ_, sS_, i64_w, i32_w]
   rfl
  refine pure_ (i := 1) (N := some 6) (v := ?_) (a' := ?_) #[true, true, false, false, false, false, false, false, false, false] rfl rfl (b3z HT_.1 (by kernel_rfl)) (fun _ _ _ h => h) (Or.inl ⟨by rfl, ?_⟩) ?_ ?_
  rotate_left
  ·intro w'
   go_simp
   with_reducible rfl
  rotate_left
  ·simp only [Act.put, sA_, sZ_, sS_, i64_w, i32_w]
   rfl
  refine pure_ (i := 4) (N := some 9) (v := ?_) (a' := ?_) #[true, true, false, false, true, false, false, false, false, false] rfl rfl (b3z HT_.1 (by kernel_rfl)) (fun _ _ _ h => h) (Or.inl ⟨by rfl, ?_⟩) ?_ ?_
  rotate_left
  ·intro w'
   go_simp
   with_reducible rfl
  rotate_left
  ·simp only [Act.put, sA_, sZ_, sS_, i64_w, i32_w]
   rfl
  refine pure_ (i := 7) (N := some 12) (v := ?_) (a' := ?_) #[true, true, false, false, true, false, false, true, false, false] rfl rfl (b3z HT_.1 (by kernel_rfl)) (fun _ _ _ h => h) (Or.inl ⟨by rfl, ?_⟩) ?_ ?_
  rotate_left
  ·intro w'
   go_simp
   with_reducible rfl
  rotate_left
  ·simp only [Act.put, sA_, sZ_, sS_, i64_w, i32_w]
   rfl
  refine one_ (i := 2) (N := some 7) #[true, true, true, false, true, false, false, true, false, false] rfl rfl (e5z HT_.1 (by kernel_rfl)) (by decide) (fun K hK => ?_)
  refine goes_ Try.func73 (by kernel_rfl) rfl #[.int .i64 a1] (by rfl) rfl rfl (by (try simp only [List.map_toArray, List.map_cons, List.map_nil]); first | done | rfl | (simp only [List.length_drop, List.length_take]; rfl)) ?_
  with_reducible refine (spec_l1Size.calls k a1 t102 _ A3.1).mono ?_
  rintro e w' ⟨rfl, ⟨nd, rfl⟩⟩
  refine ⟨_, rfl, ?_⟩
  refine hK.out _ _ trivial (fun hHeld => ?_)
  clear hK K
  refine norm_ (a' := ?_) ?_ ?_
  rotate_left
  ·show Act.put _ (some 7) _ = _
   simp only [Act.put, sA_, sZ_, sS_, i64_w, i32_w]
   rfl
  refine pure_ (i := 3) (N := some 8) (v := ?_) (a' := ?_) #[true, true, true, true, true, false, false, true, false, false] rfl rfl (b3z HT_.1 (by kernel_rfl)) (fun _ _ _ h => h) (Or.inl ⟨by rfl, ?_⟩) ?_ ?_
  rotate_left
  ·intro w'
   go_simp
   with_reducible rfl
  rotate_left
  ·simp only [Act.put, sA_, sZ_, sS_, i64_w, i32_w]
   rfl
  refine one_ (i := 5) (N := some 10) #[true, true, true, true, true, true, false, true, false, false] rfl rfl (e5z HT_.1 (by kernel_rfl)) (by decide) (fun K hK => ?_)
  refine goes_ Try.func73 (by kernel_rfl) rfl #[.int .i64 a1] (by rfl) rfl rfl (by (try simp only [List.map_toArray, List.map_cons, List.map_nil]); first | done | rfl | (simp only [List.length_drop, List.length_take]; rfl)) ?_
  with_reducible refine (spec_l1Size.calls k a1 t103 _ A5.1).mono ?_
  rintro e w' ⟨rfl, ⟨nd, rfl⟩⟩
  refine ⟨_, rfl, ?_⟩
  refine hK.out _ _ trivial (fun hHeld => ?_)
  clear hK K
  refine norm_ (a' := ?_) ?_ ?_
  rotate_left
  ·show Act.put _ (some 10) _ = _
   simp only [Act.put, sA_, sZ_, sS_, i64_w, i32_w]
   rfl
  refine pure_ (i := 6) (N := some 11) (v := ?_) (a' := ?_) #[true, true, true, true, true, true, true, true, false, false] rfl rfl (b3z HT_.1 (by kernel_rfl)) (fun _ _ _ h => h) (Or.inl ⟨by rfl, ?_⟩) ?_ ?_
  rotate_left
  ·intro w'
   go_simp
   with_reducible rfl
  rotate_left
  ·simp only [Act.put, sA_, sZ_, sS_, i64_w, i32_w]
   rfl
  refine pure_ (i := 8) (N := some 13) (v := ?_) (a' := ?_) #[true, true, true, true, true, true, true, true, true, false] rfl rfl (b3z HT_.1 (by kernel_rfl)) (fun _ _ _ h => h) (Or.inl ⟨by rfl, ?_⟩) ?_ ?_
  rotate_left
  ·intro w'
   go_simp
   with_reducible rfl
  rotate_left
  ·simp only [Act.put, sA_, sZ_, sS_, i64_w, i32_w]
   rfl
  refine one_ (i := 9) (N := none) #[true, true, true, true, true, true, true, true, true, true] rfl rfl (e5z HT_.1 (by kernel_rfl)) (by decide) (fun K hK => ?_)
  have hs8 : w7.cell? ⟨gb101, 0, none⟩ = some (.int .i64 0) := (a8z BK101.1 0).trans rfl
  have hfs8 := a9z BK101.1 0
  have hs9 : w7.cell? ⟨gb101, 1, none⟩ = some (.int .i64 0) := (a8z BK101.1 1).trans rfl
  have hfs9 := a9z BK101.1 1
  refine skip_ (w1 := ?_) (by rfl) rfl ?_ ?_
  rotate_left
  ·go_simp
   rfl
  refine hK.out _ _ trivial (fun hHeld => ?_)
  clear hK K
  refine done_ (f6z HT_.1 (by kernel_rfl)) ?_
  try go_wp2
  refine bodyPost_ret (results_cell_row rfl _ _ gb101 24 #[.int .i64 (wrap64 ((wrap64 (Int.tdiv a0 t102)) * t103)), .int .i64 a1] (0, 0) _ rfl (by (with_reducible repeat (first | refine a6z ?_ _ | refine a7z ?_ | refine blk_alloc ?_ _)); refine d3z (cs := #[.int .i64 (wrap64 ((wrap64 (Int.tdiv a0 t102)) * t103)), .int .i64 0]) ?_ 1 _ rfl; (with_reducible repeat (first | refine a6z ?_ _ | refine a7z ?_ | refine blk_alloc ?_ _)); refine d3z (cs := #[.int .i64 0, .int .i64 0]) ?_ 0 _ rfl; (with_reducible repeat (first | refine a6z ?_ _ | refine a7z ?_ | refine blk_alloc ?_ _)); exact BK101.1) Try.underlying24 rfl (by kernel_rfl)) rfl ?_
  exact ⟨by first | rfl | (simp [c1z, c0z] <;> rfl) | (simp [*, c1z, c0z] <;> rfl), by repeat (first | (with_reducible first | exact HB.1 | apply a3z | apply a0z | apply a2z | refine a4z ?_ GE101.1) | exact HB.1)⟩
end Go.Proofs.Ytbhgkpfbggkgdaa.Q

namespace Go.Proofs.Ytbhgkpfbggkgdaa.Q
open Go.RowKit Go.Proofs.YtbhgkpfbggkgdaaW.PrintWords Go.Proofs.YtbhgkpfbggkgdaaW.PrintLast Go.Proofs.YtbhgkpfbggkgdaaW.PrintMore
attribute [local go_sem] e1z d9z e4z e3z d5z d4z e0z d8z
set_option linter.unusedVariables false
set_option linter.unusedSimpArgs false
def spec_l12Addr.f (k : Nat) (s0_0 : List Int) (s0_1 : Int) : Option (Int × Int) := (spec_l1Rd_pick.f k s0_0 s0_1 256).bind fun bt101 => ((spec_l1Rd_pick.f k s0_0 bt101.2 8).bind fun bt103 => ((spec_l1Rd_pick.f k s0_0 bt103.2 16).bind fun bt105 => ((spec_l1Rd_pick.f k s0_0 bt105.2 256).bind fun bt107 => ((spec_l1Rd_pick.f k s0_0 bt107.2 64).bind fun bt109 => ((spec_l1Rd_one.f k s0_0 bt109.2 (([wrap64 (167772160 + bt101.1), wrap64 (167772160 + bt103.1), wrap64 (167772416 + bt105.1), wrap64 (3232235520 + bt107.1), 0, 4294967295, 184549375, wrap64 (2886729728 + (wrap64 (bt109.1 * 256)))] : List Int))).bind fun bt114 => (some (bt114.1, bt114.2)))))))
set_option maxHeartbeats 8000000 in
set_option maxRecDepth 100000 in
theorem spec_l12Addr.calls (k : Nat) (g : Nat) (s0_0 : List Int) (s0_1 : Int) (r1 : Int) (r2 : Int) (w0 w : World) (hI : a5z w0 w g s0_0 s0_1) (hB : Below w0.heap.size w0 w) (h : spec_l12Addr.f k s0_0 s0_1 = some (r1, r2)) :
  Calls Try.prog 124 #[.pointer (some ⟨g, 0, none⟩)] w fun e w' => e = .returned (.int .i64 r1) ∧ a5z w0 w' g s0_0 r2 ∧ Below w0.heap.size w0 w' ∧ b8z w w' g none := by
 have HI0 := a1z.mk hI
 have HK := a1z.mk (b8z.refl w g none)
 have HL := a1z.mk hB.size
 clear hI
 have HW0 := a1z.mk hB.size
 have HB := a1z.mk hB
 clear hB
 have H : ((spec_l1Rd_pick.f k s0_0 s0_1 256).bind fun bt101 => ((spec_l1Rd_pick.f k s0_0 bt101.2 8).bind fun bt103 => ((spec_l1Rd_pick.f k s0_0 bt103.2 16).bind fun bt105 => ((spec_l1Rd_pick.f k s0_0 bt105.2 256).bind fun bt107 => ((spec_l1Rd_pick.f k s0_0 bt107.2 64).bind fun bt109 => ((spec_l1Rd_one.f k s0_0 bt109.2 (([wrap64 (167772160 + bt101.1), wrap64 (167772160 + bt103.1), wrap64 (167772416 + bt105.1), wrap64 (3232235520 + bt107.1), 0, 4294967295, 184549375, wrap64 (2886729728 + (wrap64 (bt109.1 * 256)))] : List Int))).bind fun bt114 => (some (bt114.1, bt114.2)))))))) = some (r1, r2) := h
 clear h
 replace H := Option.bind_eq_some_iff.mp H
 obtain ⟨⟨t101, t102⟩, A20, H⟩ := H
 replace H : ((spec_l1Rd_pick.f k s0_0 t102 8).bind fun bt103 => ((spec_l1Rd_pick.f k s0_0 bt103.2 16).bind fun bt105 => ((spec_l1Rd_pick.f k s0_0 bt105.2 256).bind fun bt107 => ((spec_l1Rd_pick.f k s0_0 bt107.2 64).bind fun bt109 => ((spec_l1Rd_one.f k s0_0 bt109.2 (([wrap64 (167772160 + t101), wrap64 (167772160 + bt103.1), wrap64 (167772416 + bt105.1), wrap64 (3232235520 + bt107.1), 0, 4294967295, 184549375, wrap64 (2886729728 + (wrap64 (bt109.1 * 256)))] : List Int))).bind fun bt114 => (some (bt114.1, bt114.2))))))) = some (r1, r2) := H
 have A2 := a1z.mk A20
 clear A20
 replace H := Option.bind_eq_some_iff.mp H
 obtain ⟨⟨t103, t104⟩, A30, H⟩ := H
 replace H : ((spec_l1Rd_pick.f k s0_0 t104 16).bind fun bt105 => ((spec_l1Rd_pick.f k s0_0 bt105.2 256).bind fun bt107 => ((spec_l1Rd_pick.f k s0_0 bt107.2 64).bind fun bt109 => ((spec_l1Rd_one.f k s0_0 bt109.2 (([wrap64 (167772160 + t101), wrap64 (167772160 + t103), wrap64 (167772416 + bt105.1), wrap64 (3232235520 + bt107.1), 0, 4294967295, 184549375, wrap64 (2886729728 + (wrap64 (bt109.1 * 256)))] : List Int))).bind fun bt114 => (some (bt114.1, bt114.2)))))) = some (r1, r2) := H
 have A3 := a1z.mk A30
 clear A30
 replace H := Option.bind_eq_some_iff.mp H
 obtain ⟨⟨t105, t106⟩, A40, H⟩ := H
 replace H : ((spec_l1Rd_pick.f k s0_0 t106 256).bind fun bt107 => ((spec_l1Rd_pick.f k s0_0 bt107.2 64).bind fun bt109 => ((spec_l1Rd_one.f k s0_0 bt109.2 (([wrap64 (167772160 + t101), wrap64 (167772160 + t103), wrap64 (167772416 + t105), wrap64 (3232235520 + bt107.1), 0, 4294967295, 184549375, wrap64 (2886729728 + (wrap64 (bt109.1 * 256)))] : List Int))).bind fun bt114 => (some (bt114.1, bt114.2))))) = some (r1, r2) := H
 have A4 := a1z.mk A40
 clear A40
 replace H := Option.bind_eq_some_iff.mp H
 obtain ⟨⟨t107, t108⟩, A50, H⟩ := H
 replace H : ((spec_l1Rd_pick.f k s0_0 t108 64).bind fun bt109 => ((spec_l1Rd_one.f k s0_0 bt109.2 (([wrap64 (167772160 + t101), wrap64 (167772160 + t103), wrap64 (167772416 + t105), wrap64 (3232235520 + t107), 0, 4294967295, 184549375, wrap64 (2886729728 + (wrap64 (bt109.1 * 256)))] : List Int))).bind fun bt114 => (some (bt114.1, bt114.2)))) = some (r1, r2) := H
 have A5 := a1z.mk A50
 clear A50
 replace H := Option.bind_eq_some_iff.mp H
 obtain ⟨⟨t109, t110⟩, A60, H⟩ := H
 replace H : ((spec_l1Rd_one.f k s0_0 t110 (([wrap64 (167772160 + t101), wrap64 (167772160 + t103), wrap64 (167772416 + t105), wrap64 (3232235520 + t107), 0, 4294967295, 184549375, wrap64 (2886729728 + (wrap64 (t109 * 256)))] : List Int))).bind fun bt114 => (some (bt114.1, bt114.2))) = some (r1, r2) := H
 have A6 := a1z.mk A60
 clear A60
 obtain ⟨y111, hy111⟩ : ∃ y_ : List Int, y_ = (([wrap64 (167772160 + t101), wrap64 (167772160 + t103), wrap64 (167772416 + t105), wrap64 (3232235520 + t107), 0, 4294967295, 184549375, wrap64 (2886729728 + (wrap64 (t109 * 256)))] : List Int)) := ⟨_, rfl⟩
 replace H : ((spec_l1Rd_one.f k s0_0 t110 y111).bind fun bt114 => (some (bt114.1, bt114.2))) = some (r1, r2) := by first | (rw [hy111]; with_reducible exact H) | (have H2_ := (Option.bind_some _ _).symm.trans H; rw [hy111]; with_reducible exact H2_) | (have H2_ := (Option.bind_some _ _).symm.trans H; with_reducible exact H2_) | with_reducible exact H | (rw [hy111]; exact H) | exact H
 have Ny111 := a1z.mk hy111
 clear hy111
 replace H := Option.bind_eq_some_iff.mp H
 obtain ⟨⟨t114, t115⟩, A70, H⟩ := H
 replace H : (some (t114, t115)) = some (r1, r2) := H
 have A7 := a1z.mk A70
 clear A70
 simp only [Option.some.injEq, Prod.mk.injEq] at H
 obtain ⟨rfl, rfl⟩ := H
 go_enter Try.func124, Try.ntmps124
 go_wp2_with (first | ((with_reducible refine c2z (f := 89) rfl ?_); refine d1z (some 5) rfl rfl Try.func89 (by kernel_rfl) rfl #[.pointer (some ⟨g, 0, none⟩), .int .i64 256] rfl (by (try simp only [List.map_toArray, List.map_cons, List.map_nil]); first | done | rfl | (simp only [List.length_drop, List.length_take]; rfl)) ?_; (with_reducible refine (spec_l1Rd_pick.calls k g s0_0 s0_1 256 t101 t102 w0 _ ?side1 ?side2 A2.1).mono ?_); (case side1 => repeat (first | (with_reducible first | exact HI0.1 | apply a5z.alloc | apply a5z.drewN | apply a5z.drew | apply a5z.set_1) | exact HI0.1)); (case side2 => repeat (first | (with_reducible first | exact HB.1 | apply a3z | apply a0z | apply a2z | refine a4z ?_ (a5z.ge HI0.1)) | exact HB.1)); rintro e w8 ⟨rfl, hi, hb, hk⟩; refine ⟨_, rfl, ?_⟩; have n0_ := a1z.mk (b8z.trans (by repeat (first | (with_reducible first | exact HK.1 | apply b8z.set_ | apply c3z | apply c4z | apply keep_alloc) | exact HK.1)) hk (.inl rfl)); have n1_ := a1z.mk (hb); have n2_ := a1z.mk (hi); clear HK; clear HB; clear HI0; have HK := n0_; have HB := n1_; have HI0 := n2_; clear n0_ n1_ n2_; (try clear hb); (try clear hb2); (try clear hk); (try clear hi)) | ((with_reducible refine c2z (f := 89) rfl ?_); refine d1z (some 8) rfl rfl Try.func89 (by kernel_rfl) rfl #[.pointer (some ⟨g, 0, none⟩), .int .i64 8] rfl (by (try simp only [List.map_toArray, List.map_cons, List.map_nil]); first | done | rfl | (simp only [List.length_drop, List.length_take]; rfl)) ?_; (with_reducible refine (spec_l1Rd_pick.calls k g s0_0 t102 8 t103 t104 w0 _ ?side1 ?side2 A3.1).mono ?_); (case side1 => repeat (first | (with_reducible first | exact HI0.1 | apply a5z.alloc | apply a5z.drewN | apply a5z.drew | apply a5z.set_1) | exact HI0.1)); (case side2 => repeat (first | (with_reducible first | exact HB.1 | apply a3z | apply a0z | apply a2z | refine a4z ?_ (a5z.ge HI0.1)) | exact HB.1)); rintro e w9 ⟨rfl, hi, hb, hk⟩; refine ⟨_, rfl, ?_⟩; have n0_ := a1z.mk (b8z.trans (by repeat (first | (with_reducible first | exact HK.1 | apply b8z.set_ | apply c3z | apply c4z | apply keep_alloc) | exact HK.1)) hk (.inl rfl)); have n1_ := a1z.mk (hb); have n2_ := a1z.mk (hi); clear HK; clear HB; clear HI0; have HK := n0_; have HB := n1_; have HI0 := n2_; clear n0_ n1_ n2_; (try clear hb); (try clear hb2); (try clear hk); (try clear hi)) | ((with_reducible refine c2z (f := 89) rfl ?_); refine d1z (some 11) rfl rfl Try.func89 (by kernel_rfl) rfl #[.pointer (some ⟨g, 0, none⟩), .int .i64 16] rfl (by (try simp only [List.map_toArray, List.map_cons, List.map_nil]); first | done | rfl | (simp only [List.length_drop, List.length_take]; rfl)) ?_; (with_reducible refine (spec_l1Rd_pick.calls k g s0_0 t104 16 t105 t106 w0 _ ?side1 ?side2 A4.1).mono ?_); (case side1 => repeat (first | (with_reducible first | exact HI0.1 | apply a5z.alloc | apply a5z.drewN | apply a5z.drew | apply a5z.set_1) | exact HI0.1)); (case side2 => repeat (first | (with_reducible first | exact HB.1 | apply a3z | apply a0z | apply a2z | refine a4z ?_ (a5z.ge HI0.1)) | exact HB.1)); rintro e w10 ⟨rfl, hi, hb, hk⟩; refine ⟨_, rfl, ?_⟩; have n0_ := a1z.mk (b8z.trans (by repeat (first | (with_reducible first | exact HK.1 | apply b8z.set_ | apply c3z | apply c4z | apply keep_alloc) | exact HK.1)) hk (.inl rfl)); have n1_ := a1z.mk (hb); have n2_ := a1z.mk (hi); clear HK; clear HB; clear HI0; have HK := n0_; have HB := n1_; have HI0 := n2_; clear n0_ n1_ n2_; (try clear hb); (try clear hb2); (try clear hk); (try clear hi)) | ((with_reducible refine c2z (f := 89) rfl ?_); refine d1z (some 14) rfl rfl Try.func89 (by kernel_rfl) rfl #[.pointer (some ⟨g, 0, none⟩), .int .i64 256] rfl (by (try simp only [List.map_toArray, List.map_cons, List.map_nil]); first | done | rfl | (simp only [List.length_drop, List.length_take]; rfl)) ?_; (with_reducible refine (spec_l1Rd_pick.calls k g s0_0 t106 256 t107 t108 w0 _ ?side1 ?side2 A5.1).mono ?_); (case side1 => repeat (first | (with_reducible first | exact HI0.1 | apply a5z.alloc | apply a5z.drewN | apply a5z.drew | apply a5z.set_1) | exact HI0.1)); (case side2 => repeat (first | (with_reducible first | exact HB.1 | apply a3z | apply a0z | apply a2z | refine a4z ?_ (a5z.ge HI0.1)) | exact HB.1)); rintro e w11 ⟨rfl, hi, hb, hk⟩; refine ⟨_, rfl, ?_⟩; have n0_ := a1z.mk (b8z.trans (by repeat (first | (with_reducible first | exact HK.1 | apply b8z.set_ | apply c3z | apply c4z | apply keep_alloc) | exact HK.1)) hk (.inl rfl)); have n1_ := a1z.mk (hb); have n2_ := a1z.mk (hi); clear HK; clear HB; clear HI0; have HK := n0_; have HB := n1_; have HI0 := n2_; clear n0_ n1_ n2_; (try clear hb); (try clear hb2); (try clear hk); (try clear hi)) | ((with_reducible refine c2z (f := 89) rfl ?_); refine d1z (some 17) rfl rfl Try.func89 (by kernel_rfl) rfl #[.pointer (some ⟨g, 0, none⟩), .int .i64 64] rfl (by (try simp only [List.map_toArray, List.map_cons, List.map_nil]); first | done | rfl | (simp only [List.length_drop, List.length_take]; rfl)) ?_; (with_reducible refine (spec_l1Rd_pick.calls k g s0_0 t108 64 t109 t110 w0 _ ?side1 ?side2 A6.1).mono ?_); (case side1 => repeat (first | (with_reducible first | exact HI0.1 | apply a5z.alloc | apply a5z.drewN | apply a5z.drew | apply a5z.set_1) | exact HI0.1)); (case side2 => repeat (first | (with_reducible first | exact HB.1 | apply a3z | apply a0z | apply a2z | refine a4z ?_ (a5z.ge HI0.1)) | exact HB.1)); rintro e w12 ⟨rfl, hi, hb, hk⟩; refine ⟨_, rfl, ?_⟩; have n0_ := a1z.mk (b8z.trans (by repeat (first | (with_reducible first | exact HK.1 | apply b8z.set_ | apply c3z | apply c4z | apply keep_alloc) | exact HK.1)) hk (.inl rfl)); have n1_ := a1z.mk (hb); have n2_ := a1z.mk (hi); clear HK; clear HB; clear HI0; have HK := n0_; have HB := n1_; have HI0 := n2_; clear n0_ n1_ n2_; (try clear hb); (try clear hb2); (try clear hk); (try clear hi)) | ((with_reducible refine c9z (N := 20) rfl ?_); refine Kd.R_lit (Kd.int .i64) _ 3 ?hg (N := 20) ?hd (xs := ([wrap64 (167772160 + t101), wrap64 (167772160 + t103), wrap64 (167772416 + t105), wrap64 (3232235520 + t107), 0, 4294967295, 184549375, wrap64 (2886729728 + (wrap64 (t109 * 256)))] : List Int)) (inner := [.int .i64 (wrap64 (167772160 + t101)), .int .i64 (wrap64 (167772160 + t103)), .int .i64 (wrap64 (167772416 + t105)), .int .i64 (wrap64 (3232235520 + t107)), .int .i64 0, .int .i64 4294967295, .int .i64 184549375, .int .i64 (wrap64 (2886729728 + (wrap64 (t109 * 256))))]) (ok := fun _ => True) (okp := fun _ => True) ?hr ?hp (fun _ hk => hk) trivial (Below.refl _ _) (Nat.le_refl _) (by simp) ?_; (case hd => rfl); (case hg => rfl); (case hr => first | (go_simp; done) | (go_simp; rfl)); (case hp => exact (Reps.one (show Kd.M (Kd.int .i64) _ _ _ (wrap64 (167772160 + t101)) [.int .i64 (wrap64 (167772160 + t101))] from rfl) (Reps.one (show Kd.M (Kd.int .i64) _ _ _ (wrap64 (167772160 + t103)) [.int .i64 (wrap64 (167772160 + t103))] from rfl) (Reps.one (show Kd.M (Kd.int .i64) _ _ _ (wrap64 (167772416 + t105)) [.int .i64 (wrap64 (167772416 + t105))] from rfl) (Reps.one (show Kd.M (Kd.int .i64) _ _ _ (wrap64 (3232235520 + t107)) [.int .i64 (wrap64 (3232235520 + t107))] from rfl) (Reps.one (show Kd.M (Kd.int .i64) _ _ _ 0 [.int .i64 0] from rfl) (Reps.one (show Kd.M (Kd.int .i64) _ _ _ 4294967295 [.int .i64 4294967295] from rfl) (Reps.one (show Kd.M (Kd.int .i64) _ _ _ 184549375 [.int .i64 184549375] from rfl) (Reps.one (show Kd.M (Kd.int .i64) _ _ _ (wrap64 (2886729728 + (wrap64 (t109 * 256)))) [.int .i64 (wrap64 (2886729728 + (wrap64 (t109 * 256))))] from rfl) (Reps.none _ _)))))))))); intro v112 w13 ho14 hb hg_ hnew_; clear hg_ hnew_; (first | rw [← Ny111.1] at ho14 | (simp only [Int.reduceToNat] at ho14; rw [← Ny111.1] at ho14)); have n0_ := a1z.mk (Kd.c7z ho14 (e7z (w := w) (g := g) (row := none) (by repeat (first | (with_reducible first | exact HK.1 | apply b8z.set_ | apply c3z | apply c4z | apply keep_alloc) | exact HK.1)))); have n1_ := a1z.mk (a5z.below (by repeat (first | (with_reducible first | exact HI0.1 | apply a5z.alloc | apply a5z.drewN | apply a5z.drew | apply a5z.set_1) | exact HI0.1)) hb); have n2_ := a1z.mk (b8z.trans (by repeat (first | (with_reducible first | exact HK.1 | apply b8z.set_ | apply c3z | apply c4z | apply keep_alloc) | exact HK.1)) (b8z.of_below hb g none) (.inl rfl)); have n3_ := a1z.mk (b5z (by repeat (first | (with_reducible first | exact HB.1 | apply a3z | apply a0z | apply a2z | refine a4z ?_ (a5z.ge HI0.1)) | exact HB.1)) hb); clear HI0; clear HK; clear HB; have HO113 := n0_; have HI0 := n1_; have HK := n2_; have HB := n3_; clear n0_ n1_ n2_ n3_; clear hb ho14; obtain ⟨Ao15, co15, eo15⟩ := Kd.d2z HO113.1; subst eo15) | ((with_reducible refine c2z (f := 102) rfl ?_); refine d1z (some 21) rfl rfl Try.func102 (by kernel_rfl) rfl #[.pointer (some ⟨g, 0, none⟩), .slice Ao15 y111.length co15] rfl (by (try simp only [List.map_toArray, List.map_cons, List.map_nil]); first | done | rfl | (simp only [List.length_drop, List.length_take]; rfl)) ?_; (with_reducible refine (spec_l1Rd_one.calls k g s0_0 t110 _ _ y111 t114 t115 w0 _ ?side1 ?side2 ?side3 ?side4 ?side5 A7.1).mono ?_); (case side1 => repeat (first | (with_reducible first | exact HI0.1 | apply a5z.alloc | apply a5z.drewN | apply a5z.drew | apply a5z.set_1) | exact HI0.1)); (case side2 => repeat (first | (with_reducible first | exact HB.1 | apply a3z | apply a0z | apply a2z | refine a4z ?_ (a5z.ge HI0.1)) | exact HB.1)); (case side3 => repeat (first | exact (Kd.b6z HO113.1).2.2 | (with_reducible refine Kd.C_alloc ?_ _) | (with_reducible refine Kd.C_drewN ?_ _) | (with_reducible refine Kd.C_drew ?_))); (case side4 => exact (Kd.b6z HO113.1).2.1); (case side5 => exact h1z (a5z.own_ne HI0.1 HO113.1 (by decide))); rintro e w16 ⟨rfl, hi, hb, hk⟩; refine ⟨_, rfl, ?_⟩; have n0_ := a1z.mk (Kd.c8z (Kd.f5z (a5z.apart (show a5z w0 _ g s0_0 t110 from by repeat (first | (with_reducible first | exact HI0.1 | apply a5z.alloc | apply a5z.drewN | apply a5z.drew | apply a5z.set_1) | exact HI0.1)) (by (with_reducible repeat (first | apply Kd.R_alloc | apply Kd.b0z | apply Kd.b1z)); exact HO113.1) (by decide)) hk (fun _ h => h.2)) (fun _ h => h.1)); have n1_ := a1z.mk (b8z.trans (by repeat (first | (with_reducible first | exact HK.1 | apply b8z.set_ | apply c3z | apply c4z | apply keep_alloc) | exact HK.1)) hk (.inl rfl)); have n2_ := a1z.mk (hb); have n3_ := a1z.mk (hi); clear HO113; clear HK; clear HB; clear HI0; have HO113 := n0_; have HK := n1_; have HB := n2_; have HI0 := n3_; clear n0_ n1_ n2_ n3_; (try clear hb); (try clear hb2); (try clear hk); (try clear hi)))
 go_ret
 exact ⟨by first | rfl | (simp [c1z, c0z] <;> rfl) | (simp [*, c1z, c0z] <;> rfl), by repeat (first | (with_reducible first | exact HI0.1 | apply a5z.alloc | apply a5z.drewN | apply a5z.drew | apply a5z.set_1) | exact HI0.1), by repeat (first | (with_reducible first | exact HB.1 | apply a3z | apply a0z | apply a2z | refine a4z ?_ (a5z.ge HI0.1)) | exact HB.1), by repeat (first | (with_reducible first | exact HK.1 | apply b8z.set_ | apply c3z | apply c4z | apply keep_alloc) | exact HK.1)⟩
end Go.Proofs.Ytbhgkpfbggkgdaa.Q

namespace Go.Proofs.Ytbhgkpfbggkgdaa.Q
open Go.RowKit Go.Proofs.YtbhgkpfbggkgdaaW.PrintWords Go.Proofs.YtbhgkpfbggkgdaaW.PrintLast Go.Proofs.YtbhgkpfbggkgdaaW.PrintMore
attribute [local go_sem] e1z d9z e4z e3z d5z d4z e0z d8z
set_option linter.unusedVariables false
set_option linter.unusedSimpArgs false
def spec_l12Block.f (k : Nat) (s0_0 : List Int) (s0_1 : Int) : Option (Int × Int × Int) := (spec_l12Addr.f k s0_0 s0_1).bind fun bt102 => ((spec_l1Rd_one.f k s0_0 bt102.2 (([32, 31, 30, 28, 24, 24, 25, 16, 8, 1, 0, 29] : List Int))).bind fun bt107 => ((spec_l1Over.f k bt102.1 bt107.1).bind fun bt109 => (some (bt109.1, bt109.2, bt107.2))))
set_option maxHeartbeats 8000000 in
set_option maxRecDepth 100000 in
theorem spec_l12Block.calls (k : Nat) (g : Nat) (s0_0 : List Int) (s0_1 : Int) (r1 : Int) (r2 : Int) (r3 : Int) (w0 w : World) (hI : a5z w0 w g s0_0 s0_1) (hB : Below w0.heap.size w0 w) (h : spec_l12Block.f k s0_0 s0_1 = some (r1, r2, r3)) :
  Calls Try.prog 118 #[.pointer (some ⟨g, 0, none⟩)] w fun e w' => e = .returned (.agg #[.int .i64 r1, .int .i64 r2]) ∧ a5z w0 w' g s0_0 r3 ∧ Below w0.heap.size w0 w' ∧ b8z w w' g none := by
 have hu24 := Try.underlying24
 have HI0 := a1z.mk hI
 have HK := a1z.mk (b8z.refl w g none)
 have HL := a1z.mk hB.size
 clear hI
 have HW0 := a1z.mk hB.size
 have HB := a1z.mk hB
 clear hB
 have H : ((spec_l12Addr.f k s0_0 s0_1).bind fun bt102 => ((spec_l1Rd_one.f k s0_0 bt102.2 (([32, 31, 30, 28, 24, 24, 25, 16, 8, 1, 0, 29] : List Int))).bind fun bt107 => ((spec_l1Over.f k bt102.1 bt107.1).bind fun bt109 => (some (bt109.1, bt109.2, bt107.2))))) = some (r1, r2, r3) := h
 clear h
 replace H := Option.bind_eq_some_iff.mp H
 obtain ⟨⟨t102, t103⟩, A20, H⟩ := H
 replace H : ((spec_l1Rd_one.f k s0_0 t103 (([32, 31, 30, 28, 24, 24, 25, 16, 8, 1, 0, 29] : List Int))).bind fun bt107 => ((spec_l1Over.f k t102 bt107.1).bind fun bt109 => (some (bt109.1, bt109.2, bt107.2)))) = some (r1, r2, r3) := H
 have A2 := a1z.mk A20
 clear A20
 obtain ⟨y104, hy104⟩ : ∃ y_ : List Int, y_ = (([32, 31, 30, 28, 24, 24, 25, 16, 8, 1, 0, 29] : List Int)) := ⟨_, rfl⟩
 replace H : ((spec_l1Rd_one.f k s0_0 t103 y104).bind fun bt107 => ((spec_l1Over.f k t102 bt107.1).bind fun bt109 => (some (bt109.1, bt109.2, bt107.2)))) = some (r1, r2, r3) := by first | (rw [hy104]; with_reducible exact H) | (have H2_ := (Option.bind_some _ _).symm.trans H; rw [hy104]; with_reducible exact H2_) | (have H2_ := (Option.bind_some _ _).symm.trans H; with_reducible exact H2_) | with_reducible exact H | (rw [hy104]; exact H) | exact H
 have Ny104 := a1z.mk hy104
 clear hy104
 replace H := Option.bind_eq_some_iff.mp H
 obtain ⟨⟨t107, t108⟩, A30, H⟩ := H
 replace H : ((spec_l1Over.f k t102 t107).bind fun bt109 => (some (bt109.1, bt109.2, t108))) = some (r1, r2, r3) := H
 have A3 := a1z.mk A30
 clear A30
 replace H := Option.bind_eq_some_iff.mp H
 obtain ⟨⟨t109, t110⟩, A40, H⟩ := H
 replace H : (some (t109, t110, t108)) = some (r1, r2, r3) := H
 have A4 := a1z.mk A40
 clear A40
 simp only [Option.some.injEq, Prod.mk.injEq] at H
 obtain ⟨rfl, rfl, rfl⟩ := H
 go_enter Try.func118, Try.ntmps118
 go_wp2_with (first | ((with_reducible refine c9z (N := 2) rfl ?_); refine d0z ?hg (N := 2) ?hd (cs := #[.int .i64 0, .int .i64 0]) (t := 24) ?hr ?_; (case hd => rfl); (case hg => rfl); (case hr => first | (go_simp; done) | (go_simp; rfl)); intro gb101 hg w5 hbox hb; have n0_ := a1z.mk (a5z.below (by repeat (first | (with_reducible first | exact HI0.1 | apply a5z.alloc | apply a5z.drewN | apply a5z.drew | apply a5z.set_1) | exact HI0.1)) hb); have n1_ := a1z.mk (b8z.trans (by repeat (first | (with_reducible first | exact HK.1 | apply b8z.set_ | apply c3z | apply c4z | apply keep_alloc) | exact HK.1)) (b8z.of_below hb g none) (.inl rfl)); have n2_ := a1z.mk (b5z (by repeat (first | (with_reducible first | exact HB.1 | apply a3z | apply a0z | apply a2z | refine a4z ?_ (a5z.ge HI0.1)) | exact HB.1)) hb); have n3_ := a1z.mk (hbox); have n4_ := a1z.mk ((by rw [hg]; exact (e7z (w := w) (g := g) (row := none) (by repeat (first | (with_reducible first | exact HK.1 | apply b8z.set_ | apply c3z | apply c4z | apply keep_alloc) | exact HK.1))) : w.heap.size ≤ gb101)); have n5_ := a1z.mk ((Nat.le_trans HW0.1 (by rw [hg]; exact (e7z (w := w) (g := g) (row := none) (by repeat (first | (with_reducible first | exact HK.1 | apply b8z.set_ | apply c3z | apply c4z | apply keep_alloc) | exact HK.1))) : w.heap.size ≤ gb101) : w0.heap.size ≤ gb101)); have n6_ := a1z.mk ((by rw [hg]; exact Nat.ne_of_lt (a5z.lt (show a5z w0 _ g s0_0 s0_1 from by repeat (first | (with_reducible first | exact HI0.1 | apply a5z.alloc | apply a5z.drewN | apply a5z.drew | apply a5z.set_1) | exact HI0.1))) : g ≠ gb101)); have n7_ := a1z.mk ((by rw [hg]; exact Nat.ne_of_gt (a5z.lt (show a5z w0 _ g s0_0 s0_1 from by repeat (first | (with_reducible first | exact HI0.1 | apply a5z.alloc | apply a5z.drewN | apply a5z.drew | apply a5z.set_1) | exact HI0.1))) : gb101 ≠ g)); clear HI0; clear HK; clear HB; have HI0 := n0_; have HK := n1_; have HB := n2_; have BK101 := n3_; have GW101 := n4_; have GE101 := n5_; have NB0_101 := n6_; have NB101_0 := n7_; clear n0_ n1_ n2_ n3_ n4_ n5_ n6_ n7_; clear hb hbox hg) | ((with_reducible refine c2z (f := 124) rfl ?_); refine d1z (some 4) rfl rfl Try.func124 (by kernel_rfl) rfl #[.pointer (some ⟨g, 0, none⟩)] rfl (by (try simp only [List.map_toArray, List.map_cons, List.map_nil]); first | done | rfl | (simp only [List.length_drop, List.length_take]; rfl)) ?_; (with_reducible refine (spec_l12Addr.calls k g s0_0 s0_1 t102 t103 w0 _ ?side1 ?side2 A2.1).mono ?_); (case side1 => repeat (first | (with_reducible first | exact HI0.1 | apply a5z.alloc | apply a5z.drewN | apply a5z.drew | apply a5z.set_1 | refine a5z.far ?_ NB0_101.1 _) | exact HI0.1)); (case side2 => repeat (first | (with_reducible first | exact HB.1 | apply a3z | apply a0z | apply a2z | refine a4z ?_ (a5z.ge HI0.1) | refine a4z ?_ GE101.1) | exact HB.1)); rintro e w6 ⟨rfl, hi, hb, hk⟩; refine ⟨_, rfl, ?_⟩; have n0_ := a1z.mk (b8z.blk hk (g' := gb101) (o := .cells #[.int .i64 0, .int .i64 0] 24 (0, 0)) (by (with_reducible repeat (first | refine a6z ?_ _ | refine a7z ?_ | refine blk_alloc ?_ _)); exact BK101.1) NB101_0.1 (by simp)); have n1_ := a1z.mk (b8z.trans (by repeat (first | (with_reducible first | exact HK.1 | apply b8z.set_ | apply c3z | apply c4z | apply keep_alloc | refine e2z ?_ GW101.1 _) | exact HK.1)) hk (.inl rfl)); have n2_ := a1z.mk (hb); have n3_ := a1z.mk (hi); clear BK101; clear HK; clear HB; clear HI0; have BK101 := n0_; have HK := n1_; have HB := n2_; have HI0 := n3_; clear n0_ n1_ n2_ n3_; (try clear hb); (try clear hb2); (try clear hk); (try clear hi)) | ((with_reducible refine c9z (N := 6) rfl ?_); refine Kd.R_lit (Kd.int .i64) _ 3 ?hg (N := 6) ?hd (xs := ([32, 31, 30, 28, 24, 24, 25, 16, 8, 1, 0, 29] : List Int)) (inner := [.int .i64 32, .int .i64 31, .int .i64 30, .int .i64 28, .int .i64 24, .int .i64 24, .int .i64 25, .int .i64 16, .int .i64 8, .int .i64 1, .int .i64 0, .int .i64 29]) (ok := fun _ => True) (okp := fun _ => True) ?hr ?hp (fun _ hk => hk) trivial (Below.refl _ _) (Nat.le_refl _) (by simp) ?_; (case hd => rfl); (case hg => rfl); (case hr => first | (go_simp; done) | (go_simp; rfl)); (case hp => exact (Reps.one (show Kd.M (Kd.int .i64) _ _ _ 32 [.int .i64 32] from rfl) (Reps.one (show Kd.M (Kd.int .i64) _ _ _ 31 [.int .i64 31] from rfl) (Reps.one (show Kd.M (Kd.int .i64) _ _ _ 30 [.int .i64 30] from rfl) (Reps.one (show Kd.M (Kd.int .i64) _ _ _ 28 [.int .i64 28] from rfl) (Reps.one (show Kd.M (Kd.int .i64) _ _ _ 24 [.int .i64 24] from rfl) (Reps.one (show Kd.M (Kd.int .i64) _ _ _ 24 [.int .i64 24] from rfl) (Reps.one (show Kd.M (Kd.int .i64) _ _ _ 25 [.int .i64 25] from rfl) (Reps.one (show Kd.M (Kd.int .i64) _ _ _ 16 [.int .i64 16] from rfl) (Reps.one (show Kd.M (Kd.int .i64) _ _ _ 8 [.int .i64 8] from rfl) (Reps.one (show Kd.M (Kd.int .i64) _ _ _ 1 [.int .i64 1] from rfl) (Reps.one (show Kd.M (Kd.int .i64) _ _ _ 0 [.int .i64 0] from rfl) (Reps.one (show Kd.M (Kd.int .i64) _ _ _ 29 [.int .i64 29] from rfl) (Reps.none _ _)))))))))))))); intro v105 w7 ho8 hb hg_ hnew_; clear hg_ hnew_; (first | rw [← Ny104.1] at ho8 | (simp only [Int.reduceToNat] at ho8; rw [← Ny104.1] at ho8)); have n0_ := a1z.mk (Kd.c7z ho8 (e7z (w := w) (g := g) (row := none) (by repeat (first | (with_reducible first | exact HK.1 | apply b8z.set_ | apply c3z | apply c4z | apply keep_alloc | refine e2z ?_ GW101.1 _) | exact HK.1)))); have n1_ := a1z.mk (a5z.below (by repeat (first | (with_reducible first | exact HI0.1 | apply a5z.alloc | apply a5z.drewN | apply a5z.drew | apply a5z.set_1 | refine a5z.far ?_ NB0_101.1 _) | exact HI0.1)) hb); have n2_ := a1z.mk (b7z (g := gb101) (o := .cells #[.int .i64 0, .int .i64 0] 24 (0, 0)) (by (with_reducible repeat (first | refine a6z ?_ _ | refine a7z ?_ | refine blk_alloc ?_ _)); exact BK101.1) hb); have n3_ := a1z.mk (b8z.trans (by repeat (first | (with_reducible first | exact HK.1 | apply b8z.set_ | apply c3z | apply c4z | apply keep_alloc | refine e2z ?_ GW101.1 _) | exact HK.1)) (b8z.of_below hb g none) (.inl rfl)); have n4_ := a1z.mk (b5z (by repeat (first | (with_reducible first | exact HB.1 | apply a3z | apply a0z | apply a2z | refine a4z ?_ (a5z.ge HI0.1) | refine a4z ?_ GE101.1) | exact HB.1)) hb); clear HI0; clear BK101; clear HK; clear HB; have HO106 := n0_; have HI0 := n1_; have BK101 := n2_; have HK := n3_; have HB := n4_; clear n0_ n1_ n2_ n3_ n4_; clear hb ho8; obtain ⟨Ao9, co9, eo9⟩ := Kd.d2z HO106.1; subst eo9) | ((with_reducible refine c2z (f := 102) rfl ?_); refine d1z (some 7) rfl rfl Try.func102 (by kernel_rfl) rfl #[.pointer (some ⟨g, 0, none⟩), .slice Ao9 y104.length co9] rfl (by (try simp only [List.map_toArray, List.map_cons, List.map_nil]); first | done | rfl | (simp only [List.length_drop, List.length_take]; rfl)) ?_; (with_reducible refine (spec_l1Rd_one.calls k g s0_0 t103 _ _ y104 t107 t108 w0 _ ?side1 ?side2 ?side3 ?side4 ?side5 A3.1).mono ?_); (case side1 => repeat (first | (with_reducible first | exact HI0.1 | apply a5z.alloc | apply a5z.drewN | apply a5z.drew | apply a5z.set_1 | refine a5z.far ?_ NB0_101.1 _) | exact HI0.1)); (case side2 => repeat (first | (with_reducible first | exact HB.1 | apply a3z | apply a0z | apply a2z | refine a4z ?_ (a5z.ge HI0.1) | refine a4z ?_ GE101.1) | exact HB.1)); (case side3 => repeat (first | exact (Kd.b6z HO106.1).2.2 | (with_reducible refine Kd.C_alloc ?_ _) | (with_reducible refine Kd.C_drewN ?_ _) | (with_reducible refine Kd.C_drew ?_))); (case side4 => exact (Kd.b6z HO106.1).2.1); (case side5 => exact h1z (a5z.own_ne HI0.1 HO106.1 (by decide))); rintro e w10 ⟨rfl, hi, hb, hk⟩; refine ⟨_, rfl, ?_⟩; have n0_ := a1z.mk (b8z.blk hk (g' := gb101) (o := .cells #[.int .i64 0, .int .i64 0] 24 (0, 0)) (by (with_reducible repeat (first | refine a6z ?_ _ | refine a7z ?_ | refine blk_alloc ?_ _)); exact BK101.1) NB101_0.1 (by simp)); have n1_ := a1z.mk (Kd.c8z (Kd.f5z (a5z.apart (show a5z w0 _ g s0_0 t103 from by repeat (first | (with_reducible first | exact HI0.1 | apply a5z.alloc | apply a5z.drewN | apply a5z.drew | apply a5z.set_1 | refine a5z.far ?_ NB0_101.1 _) | exact HI0.1)) (by (with_reducible repeat (first | apply Kd.R_alloc | apply Kd.b0z | apply Kd.b1z)); exact HO106.1) (by decide)) hk (fun _ h => h.2)) (fun _ h => h.1)); have n2_ := a1z.mk (b8z.trans (by repeat (first | (with_reducible first | exact HK.1 | apply b8z.set_ | apply c3z | apply c4z | apply keep_alloc | refine e2z ?_ GW101.1 _) | exact HK.1)) hk (.inl rfl)); have n3_ := a1z.mk (hb); have n4_ := a1z.mk (hi); clear BK101; clear HO106; clear HK; clear HB; clear HI0; have BK101 := n0_; have HO106 := n1_; have HK := n2_; have HB := n3_; have HI0 := n4_; clear n0_ n1_ n2_ n3_ n4_; (try clear hb); (try clear hb2); (try clear hk); (try clear hi)) | ((with_reducible refine c2z (f := 60) rfl ?_); refine d1z (some 8) rfl rfl Try.func60 (by kernel_rfl) rfl #[.int .i64 t102, .int .i64 t107] rfl (by (try simp only [List.map_toArray, List.map_cons, List.map_nil]); first | done | rfl | (simp only [List.length_drop, List.length_take]; rfl)) ?_; (with_reducible refine (spec_l1Over.calls k t102 t107 t109 t110 _ A4.1).mono ?_); rintro e w11 ⟨rfl, hb⟩; refine ⟨_, rfl, ?_⟩; have n0_ := a1z.mk (Kd.e9z (by (with_reducible repeat (first | apply Kd.R_alloc | apply Kd.b0z | apply Kd.b1z)); exact HO106.1) hb); have n1_ := a1z.mk (a5z.below (by repeat (first | (with_reducible first | exact HI0.1 | apply a5z.alloc | apply a5z.drewN | apply a5z.drew | apply a5z.set_1 | refine a5z.far ?_ NB0_101.1 _) | exact HI0.1)) hb); have n2_ := a1z.mk (b7z (g := gb101) (o := .cells #[.int .i64 0, .int .i64 0] 24 (0, 0)) (by (with_reducible repeat (first | refine a6z ?_ _ | refine a7z ?_ | refine blk_alloc ?_ _)); exact BK101.1) hb); have n3_ := a1z.mk (b8z.trans (by repeat (first | (with_reducible first | exact HK.1 | apply b8z.set_ | apply c3z | apply c4z | apply keep_alloc | refine e2z ?_ GW101.1 _) | exact HK.1)) (b8z.of_below hb g none) (.inl rfl)); have n4_ := a1z.mk (b5z (by repeat (first | (with_reducible first | exact HB.1 | apply a3z | apply a0z | apply a2z | refine a4z ?_ (a5z.ge HI0.1) | refine a4z ?_ GE101.1) | exact HB.1)) hb); clear HO106; clear HI0; clear BK101; clear HK; clear HB; have HO106 := n0_; have HI0 := n1_; have BK101 := n2_; have HK := n3_; have HB := n4_; clear n0_ n1_ n2_ n3_ n4_; (try clear hb); (try clear hb2); (try clear hk); (try clear hi); have hnb12 := NB101_0.1; have hnc12 := NB0_101.1; have hcz13_0 : w11.cell? ⟨gb101, 0, none⟩ = some (.int .i64 0) := (a8z BK101.1 0).trans rfl; have hcz13_1 : w11.cell? ⟨gb101, 1, none⟩ = some (.int .i64 0) := (a8z BK101.1 1).trans rfl; have hfz13_0 := a9z BK101.1 0; have hfz13_1 := a9z BK101.1 1))
 refine bodyPost_ret (results_cell_row rfl _ _ gb101 24 #[.int .i64 t109, .int .i64 t110] (0, 0) _ rfl (by (with_reducible repeat (first | refine a6z ?_ _ | refine a7z ?_ | refine blk_alloc ?_ _)); refine d3z (cs := #[.int .i64 t109, .int .i64 0]) ?_ 1 _ rfl; (with_reducible repeat (first | refine a6z ?_ _ | refine a7z ?_ | refine blk_alloc ?_ _)); refine d3z (cs := #[.int .i64 0, .int .i64 0]) ?_ 0 _ rfl; (with_reducible repeat (first | refine a6z ?_ _ | refine a7z ?_ | refine blk_alloc ?_ _)); exact BK101.1) Try.underlying24 rfl (by kernel_rfl)) rfl ?_
 exact ⟨by first | rfl | (simp [c1z, c0z] <;> rfl) | (simp [*, c1z, c0z] <;> rfl), by repeat (first | (with_reducible first | exact HI0.1 | apply a5z.alloc | apply a5z.drewN | apply a5z.drew | apply a5z.set_1 | refine a5z.far ?_ NB0_101.1 _) | exact HI0.1), by repeat (first | (with_reducible first | exact HB.1 | apply a3z | apply a0z | apply a2z | refine a4z ?_ (a5z.ge HI0.1) | refine a4z ?_ GE101.1) | exact HB.1), by repeat (first | (with_reducible first | exact HK.1 | apply b8z.set_ | apply c3z | apply c4z | apply keep_alloc | refine e2z ?_ GW101.1 _) | exact HK.1)⟩
end Go.Proofs.Ytbhgkpfbggkgdaa.Q

namespace Go.Proofs.Ytbhgkpfbggkgdaa.Q
open Go.RowKit Go.Proofs.YtbhgkpfbggkgdaaW.PrintWords Go.Proofs.YtbhgkpfbggkgdaaW.PrintLast Go.Proofs.YtbhgkpfbggkgdaaW.PrintMore
attribute [local go_sem] e1z d9z e4z e3z d5z d4z e0z d8z
set_option linter.unusedVariables false
set_option linter.unusedSimpArgs false
def spec_l12AnyBlock.f (k : Nat) (s0_0 : List Int) (s0_1 : Int) : Option (Int × Int × Int) := (spec_l12Block.f k s0_0 s0_1).bind fun bt102 => ((spec_l1Rd_pick.f k s0_0 bt102.2.2 16).bind fun bt106 => (if bt106.1 = 0 then ((spec_l1Rd_one.f k s0_0 bt106.2 (([1, (-1), 256] : List Int))).bind fun bt111 => (some (wrap64 (bt102.1 + bt111.1), bt102.2.1, bt111.2))) else (if bt106.1 = 1 then ((spec_l1Rd_one.f k s0_0 bt106.2 (([(-1), 33, 0, 32] : List Int))).bind fun bt116 => (some (bt102.1, bt116.1, bt116.2))) else (some (bt102.1, bt102.2.1, bt106.2)))))
def spec_l12AnyBlock.T4 : Bool × List (List Nat × List Nat) := (true, [([], []), ([0], [0]), ([], []), ([], []), ([2, 3], [2, 3]), ([1, 4], [1, 4]), ([0, 1, 2, 3, 4, 5], []), ([6, 5, 4, 0, 1, 2, 3, 4, 5], [5, 6])])
def spec_l12AnyBlock.B4 : List Nat := [0, 1, 0, 0, 12, 31, 63, 127]
theorem spec_l12AnyBlock.tab4 : rtab .any (opsOf Try.f101 4) = spec_l12AnyBlock.T4 := by kernel_rfl
theorem spec_l12AnyBlock.bits4 : waitsOk spec_l12AnyBlock.T4.2 spec_l12AnyBlock.B4 = true := by kernel_rfl
set_option maxHeartbeats 8000000 in
set_option maxRecDepth 100000 in
theorem spec_l12AnyBlock.calls (k : Nat) (g : Nat) (s0_0 : List Int) (s0_1 : Int) (r1 : Int) (r2 : Int) (r3 : Int) (w0 w : World) (hI : a5z w0 w g s0_0 s0_1) (hB : Below w0.heap.size w0 w) (h : spec_l12AnyBlock.f k s0_0 s0_1 = some (r1, r2, r3)) :
  Calls Try.prog 101 #[.pointer (some ⟨g, 0, none⟩)] w fun e w' => e = .returned (.agg #[.int .i64 r1, .int .i64 r2]) ∧ a5z w0 w' g s0_0 r3 ∧ Below w0.heap.size w0 w' ∧ b8z w w' g none := by
 have hu24 := Try.underlying24
 have HI0 := a1z.mk hI
 have HK := a1z.mk (b8z.refl w g none)
 have HL := a1z.mk hB.size
 clear hI
 have HW0 := a1z.mk hB.size
 have HB := a1z.mk hB
 clear hB
 have H : ((spec_l12Block.f k s0_0 s0_1).bind fun bt102 => ((spec_l1Rd_pick.f k s0_0 bt102.2.2 16).bind fun bt106 => (if bt106.1 = 0 then ((spec_l1Rd_one.f k s0_0 bt106.2 (([1, (-1), 256] : List Int))).bind fun bt111 => (some (wrap64 (bt102.1 + bt111.1), bt102.2.1, bt111.2))) else (if bt106.1 = 1 then ((spec_l1Rd_one.f k s0_0 bt106.2 (([(-1), 33, 0, 32] : List Int))).bind fun bt116 => (some (bt102.1, bt116.1, bt116.2))) else (some (bt102.1, bt102.2.1, bt106.2)))))) = some (r1, r2, r3) := h
 clear h
 replace H := Option.bind_eq_some_iff.mp H
 obtain ⟨⟨t102, t103, t104⟩, A20, H⟩ := H
 replace H : ((spec_l1Rd_pick.f k s0_0 t104 16).bind fun bt106 => (if bt106.1 = 0 then ((spec_l1Rd_one.f k s0_0 bt106.2 (([1, (-1), 256] : List Int))).bind fun bt111 => (some (wrap64 (t102 + bt111.1), t103, bt111.2))) else (if bt106.1 = 1 then ((spec_l1Rd_one.f k s0_0 bt106.2 (([(-1), 33, 0, 32] : List Int))).bind fun bt116 => (some (t102, bt116.1, bt116.2))) else (some (t102, t103, bt106.2))))) = some (r1, r2, r3) := H
 have A2 := a1z.mk A20
 clear A20
 replace H := Option.bind_eq_some_iff.mp H
 obtain ⟨⟨t106, t107⟩, A30, H⟩ := H
 replace H : (if t106 = 0 then ((spec_l1Rd_one.f k s0_0 t107 (([1, (-1), 256] : List Int))).bind fun bt111 => (some (wrap64 (t102 + bt111.1), t103, bt111.2))) else (if t106 = 1 then ((spec_l1Rd_one.f k s0_0 t107 (([(-1), 33, 0, 32] : List Int))).bind fun bt116 => (some (t102, bt116.1, bt116.2))) else (some (t102, t103, t107)))) = some (r1, r2, r3) := H
 have A3 := a1z.mk A30
 clear A30
 by_cases c4 : t106 = 0
 ·rw [if_pos c4] at H
  have c4b0 : (t106 == 0) = true := beq_iff_eq.mpr c4
  have c4b1 : (t106 != 0) = false := bne_eq_false_iff_eq.mpr c4
  clear c4
  obtain ⟨y108, hy108⟩ : ∃ y_ : List Int, y_ = (([1, (-1), 256] : List Int)) := ⟨_, rfl⟩
  replace H : ((spec_l1Rd_one.f k s0_0 t107 y108).bind fun bt111 => (some (wrap64 (t102 + bt111.1), t103, bt111.2))) = some (r1, r2, r3) := by first | (rw [hy108]; with_reducible exact H) | (have H2_ := (Option.bind_some _ _).symm.trans H; rw [hy108]; with_reducible exact H2_) | (have H2_ := (Option.bind_some _ _).symm.trans H; with_reducible exact H2_) | with_reducible exact H | (rw [hy108]; exact H) | exact H
  have Ny108 := a1z.mk hy108
  clear hy108
  replace H := Option.bind_eq_some_iff.mp H
  obtain ⟨⟨t111, t112⟩, A50, H⟩ := H
  replace H : (some (wrap64 (t102 + t111), t103, t112)) = some (r1, r2, r3) := H
  have A5 := a1z.mk A50
  clear A50
  simp only [Option.some.injEq, Prod.mk.injEq] at H
  obtain ⟨rfl, rfl, rfl⟩ := H
  go_enter Try.func101, Try.ntmps101
  try go_wp2_with (first | ((with_reducible refine c9z (N := 2) rfl ?_); refine d0z ?hg (N := 2) ?hd (cs := #[.int .i64 0, .int .i64 0]) (t := 24) ?hr ?_; (case hd => rfl); (case hg => rfl); (case hr => first | (go_simp; done) | (go_simp; rfl)); intro gb101 hg w6 hbox hb; have n0_ := a1z.mk (a5z.below (by repeat (first | (with_reducible first | exact HI0.1 | apply a5z.alloc | apply a5z.drewN | apply a5z.drew | apply a5z.set_1) | exact HI0.1)) hb); have n1_ := a1z.mk (b8z.trans (by repeat (first | (with_reducible first | exact HK.1 | apply b8z.set_ | apply c3z | apply c4z | apply keep_alloc) | exact HK.1)) (b8z.of_below hb g none) (.inl rfl)); have n2_ := a1z.mk (b5z (by repeat (first | (with_reducible first | exact HB.1 | apply a3z | apply a0z | apply a2z | refine a4z ?_ (a5z.ge HI0.1)) | exact HB.1)) hb); have n3_ := a1z.mk (hbox); have n4_ := a1z.mk ((by rw [hg]; exact (e7z (w := w) (g := g) (row := none) (by repeat (first | (with_reducible first | exact HK.1 | apply b8z.set_ | apply c3z | apply c4z | apply keep_alloc) | exact HK.1))) : w.heap.size ≤ gb101)); have n5_ := a1z.mk ((Nat.le_trans HW0.1 (by rw [hg]; exact (e7z (w := w) (g := g) (row := none) (by repeat (first | (with_reducible first | exact HK.1 | apply b8z.set_ | apply c3z | apply c4z | apply keep_alloc) | exact HK.1))) : w.heap.size ≤ gb101) : w0.heap.size ≤ gb101)); have n6_ := a1z.mk ((by rw [hg]; exact Nat.ne_of_lt (a5z.lt (show a5z w0 _ g s0_0 s0_1 from by repeat (first | (with_reducible first | exact HI0.1 | apply a5z.alloc | apply a5z.drewN | apply a5z.drew | apply a5z.set_1) | exact HI0.1))) : g ≠ gb101)); have n7_ := a1z.mk ((by rw [hg]; exact Nat.ne_of_gt (a5z.lt (show a5z w0 _ g s0_0 s0_1 from by repeat (first | (with_reducible first | exact HI0.1 | apply a5z.alloc | apply a5z.drewN | apply a5z.drew | apply a5z.set_1) | exact HI0.1))) : gb101 ≠ g)); clear HI0; clear HK; clear HB; have HI0 := n0_; have HK := n1_; have HB := n2_; have BK101 := n3_; have GW101 := n4_; have GE101 := n5_; have NB0_101 := n6_; have NB101_0 := n7_; clear n0_ n1_ n2_ n3_ n4_ n5_ n6_ n7_; clear hb hbox hg) | ((with_reducible refine c2z (f := 118) rfl ?_); refine d1z (some 5) rfl rfl Try.func118 (by kernel_rfl) rfl #[.pointer (some ⟨g, 0, none⟩)] rfl (by (try simp only [List.map_toArray, List.map_cons, List.map_nil]); first | done | rfl | (simp only [List.length_drop, List.length_take]; rfl)) ?_; (with_reducible refine (spec_l12Block.calls k g s0_0 s0_1 t102 t103 t104 w0 _ ?side1 ?side2 A2.1).mono ?_); (case side1 => repeat (first | (with_reducible first | exact HI0.1 | apply a5z.alloc | apply a5z.drewN | apply a5z.drew | apply a5z.set_1 | refine a5z.far ?_ NB0_101.1 _) | exact HI0.1)); (case side2 => repeat (first | (with_reducible first | exact HB.1 | apply a3z | apply a0z | apply a2z | refine a4z ?_ (a5z.ge HI0.1) | refine a4z ?_ GE101.1) | exact HB.1)); rintro e w7 ⟨rfl, hi, hb, hk⟩; refine ⟨_, rfl, ?_⟩; have n0_ := a1z.mk (b8z.blk hk (g' := gb101) (o := .cells #[.int .i64 0, .int .i64 0] 24 (0, 0)) (by (with_reducible repeat (first | refine a6z ?_ _ | refine a7z ?_ | refine blk_alloc ?_ _)); exact BK101.1) NB101_0.1 (by simp)); have n1_ := a1z.mk (b8z.trans (by repeat (first | (with_reducible first | exact HK.1 | apply b8z.set_ | apply c3z | apply c4z | apply keep_alloc | refine e2z ?_ GW101.1 _) | exact HK.1)) hk (.inl rfl)); have n2_ := a1z.mk (hb); have n3_ := a1z.mk (hi); clear BK101; clear HK; clear HB; clear HI0; have BK101 := n0_; have HK := n1_; have HB := n2_; have HI0 := n3_; clear n0_ n1_ n2_ n3_; (try clear hb); (try clear hb2); (try clear hk); (try clear hi)) | ((with_reducible refine c9z (N := 3) rfl ?_); refine d0z ?hg (N := 3) ?hd (cs := #[.int .i64 0, .int .i64 0]) (t := 24) ?hr ?_; (case hd => rfl); (case hg => rfl); (case hr => first | (go_simp; done) | (go_simp; rfl)); intro gb105 hg w8 hbox hb; have n0_ := a1z.mk (a5z.below (by repeat (first | (with_reducible first | exact HI0.1 | apply a5z.alloc | apply a5z.drewN | apply a5z.drew | apply a5z.set_1 | refine a5z.far ?_ NB0_101.1 _) | exact HI0.1)) hb); have n1_ := a1z.mk (b7z (g := gb101) (o := .cells #[.int .i64 0, .int .i64 0] 24 (0, 0)) (by (with_reducible repeat (first | refine a6z ?_ _ | refine a7z ?_ | refine blk_alloc ?_ _)); exact BK101.1) hb); have n2_ := a1z.mk (b8z.trans (by repeat (first | (with_reducible first | exact HK.1 | apply b8z.set_ | apply c3z | apply c4z | apply keep_alloc | refine e2z ?_ GW101.1 _) | exact HK.1)) (b8z.of_below hb g none) (.inl rfl)); have n3_ := a1z.mk (b5z (by repeat (first | (with_reducible first | exact HB.1 | apply a3z | apply a0z | apply a2z | refine a4z ?_ (a5z.ge HI0.1) | refine a4z ?_ GE101.1) | exact HB.1)) hb); have n4_ := a1z.mk (hbox); have n5_ := a1z.mk ((by rw [hg]; exact (e7z (w := w) (g := g) (row := none) (by repeat (first | (with_reducible first | exact HK.1 | apply b8z.set_ | apply c3z | apply c4z | apply keep_alloc | refine e2z ?_ GW101.1 _) | exact HK.1))) : w.heap.size ≤ gb105)); have n6_ := a1z.mk ((Nat.le_trans HW0.1 (by rw [hg]; exact (e7z (w := w) (g := g) (row := none) (by repeat (first | (with_reducible first | exact HK.1 | apply b8z.set_ | apply c3z | apply c4z | apply keep_alloc | refine e2z ?_ GW101.1 _) | exact HK.1))) : w.heap.size ≤ gb105) : w0.heap.size ≤ gb105)); have n7_ := a1z.mk ((by rw [hg]; exact Nat.ne_of_lt (f1z (g := gb101) (o := .cells #[.int .i64 0, .int .i64 0] 24 (0, 0)) (by (with_reducible repeat (first | refine a6z ?_ _ | refine a7z ?_ | refine blk_alloc ?_ _)); exact BK101.1)) : gb101 ≠ gb105)); have n8_ := a1z.mk ((by rw [hg]; exact Nat.ne_of_gt (f1z (g := gb101) (o := .cells #[.int .i64 0, .int .i64 0] 24 (0, 0)) (by (with_reducible repeat (first | refine a6z ?_ _ | refine a7z ?_ | refine blk_alloc ?_ _)); exact BK101.1)) : gb105 ≠ gb101)); have n9_ := a1z.mk ((by rw [hg]; exact Nat.ne_of_lt (a5z.lt (show a5z w0 _ g s0_0 t104 from by repeat (first | (with_reducible first | exact HI0.1 | apply a5z.alloc | apply a5z.drewN | apply a5z.drew | apply a5z.set_1 | refine a5z.far ?_ NB0_101.1 _) | exact HI0.1))) : g ≠ gb105)); have n10_ := a1z.mk ((by rw [hg]; exact Nat.ne_of_gt (a5z.lt (show a5z w0 _ g s0_0 t104 from by repeat (first | (with_reducible first | exact HI0.1 | apply a5z.alloc | apply a5z.drewN | apply a5z.drew | apply a5z.set_1 | refine a5z.far ?_ NB0_101.1 _) | exact HI0.1))) : gb105 ≠ g)); clear HI0; clear BK101; clear HK; clear HB; have HI0 := n0_; have BK101 := n1_; have HK := n2_; have HB := n3_; have BK105 := n4_; have GW105 := n5_; have GE105 := n6_; have NB101_105 := n7_; have NB105_101 := n8_; have NB0_105 := n9_; have NB105_0 := n10_; clear n0_ n1_ n2_ n3_ n4_ n5_ n6_ n7_ n8_ n9_ n10_; clear hb hbox hg; have hnb9 := NB105_101.1; have hnc9 := NB101_105.1; have hnb10 := NB105_0.1; have hnc10 := NB0_105.1; have hcz11_0 : w8.cell? ⟨gb105, 0, none⟩ = some (.int .i64 0) := (a8z BK105.1 0).trans rfl; have hcz11_1 : w8.cell? ⟨gb105, 1, none⟩ = some (.int .i64 0) := (a8z BK105.1 1).trans rfl; have hfz11_0 := a9z BK105.1 0; have hfz11_1 := a9z BK105.1 1) | ((with_reducible refine c2z (f := 89) rfl ?_); refine d1z (some 7) rfl rfl Try.func89 (by kernel_rfl) rfl #[.pointer (some ⟨g, 0, none⟩), .int .i64 16] rfl (by (try simp only [List.map_toArray, List.map_cons, List.map_nil]); first | done | rfl | (simp only [List.length_drop, List.length_take]; rfl)) ?_; (with_reducible refine (spec_l1Rd_pick.calls k g s0_0 t104 16 t106 t107 w0 _ ?side1 ?side2 A3.1).mono ?_); (case side1 => repeat (first | (with_reducible first | exact HI0.1 | apply a5z.alloc | apply a5z.drewN | apply a5z.drew | apply a5z.set_1 | refine a5z.far ?_ NB0_101.1 _ | refine a5z.far ?_ NB0_105.1 _) | exact HI0.1)); (case side2 => repeat (first | (with_reducible first | exact HB.1 | apply a3z | apply a0z | apply a2z | refine a4z ?_ (a5z.ge HI0.1) | refine a4z ?_ GE101.1 | refine a4z ?_ GE105.1) | exact HB.1)); rintro e w12 ⟨rfl, hi, hb, hk⟩; refine ⟨_, rfl, ?_⟩; have n0_ := a1z.mk (b8z.blk hk (g' := gb101) (o := .cells #[.int .i64 0, .int .i64 0] 24 (0, 0)) (by (with_reducible repeat (first | refine a6z ?_ _ | refine a7z ?_ | refine blk_alloc ?_ _)); refine f2z ?_ NB101_105.1 _; (with_reducible repeat (first | refine a6z ?_ _ | refine a7z ?_ | refine blk_alloc ?_ _)); refine f2z ?_ NB101_105.1 _; (with_reducible repeat (first | refine a6z ?_ _ | refine a7z ?_ | refine blk_alloc ?_ _)); exact BK101.1) NB101_0.1 (by simp)); have n1_ := a1z.mk (b8z.blk hk (g' := gb105) (o := .cells #[.int .i64 t102, .int .i64 t103] 24 (0, 0)) (by (with_reducible repeat (first | refine a6z ?_ _ | refine a7z ?_ | refine blk_alloc ?_ _)); refine d3z (cs := #[.int .i64 t102, .int .i64 0]) ?_ 1 _ rfl; (with_reducible repeat (first | refine a6z ?_ _ | refine a7z ?_ | refine blk_alloc ?_ _)); refine d3z (cs := #[.int .i64 0, .int .i64 0]) ?_ 0 _ rfl; (with_reducible repeat (first | refine a6z ?_ _ | refine a7z ?_ | refine blk_alloc ?_ _)); exact BK105.1) NB105_0.1 (by simp)); have n2_ := a1z.mk (b8z.trans (by repeat (first | (with_reducible first | exact HK.1 | apply b8z.set_ | apply c3z | apply c4z | apply keep_alloc | refine e2z ?_ GW101.1 _ | refine e2z ?_ GW105.1 _) | exact HK.1)) hk (.inl rfl)); have n3_ := a1z.mk (hb); have n4_ := a1z.mk (hi); clear BK101; clear BK105; clear HK; clear HB; clear HI0; have BK101 := n0_; have BK105 := n1_; have HK := n2_; have HB := n3_; have HI0 := n4_; clear n0_ n1_ n2_ n3_ n4_; (try clear hb); (try clear hb2); (try clear hk); (try clear hi)))
  have n0_ := a1z.mk (a7z BK101.1)
  have n1_ := a1z.mk (a7z BK105.1)
  have n2_ := a1z.mk (a5z.drew HI0.1)
  have n3_ := a1z.mk (c4z HK.1)
  have n4_ := a1z.mk (a2z HB.1)
  clear BK101
  clear BK105
  clear HI0
  clear HK
  clear HB
  have BK101 := n0_
  have BK105 := n1_
  have HI0 := n2_
  have HK := n3_
  have HB := n4_
  clear n0_ n1_ n2_ n3_ n4_
  refine f7z (n := 8) (S := fun w' => w'.cell? ⟨gb105, 0, none⟩ = some (.int .i64 t102) ∧ w'.cell? ⟨gb105, 1, none⟩ = some (.int .i64 t103)) (ds := [7]) #[false, false, false, false, false, false, false, false] (by kernel_rfl) rfl rfl ⟨(a8z BK105.1 0).trans rfl, (a8z BK105.1 1).trans rfl⟩ (fun hHeld => ?_); refine e8z spec_l12AnyBlock.tab4 spec_l12AnyBlock.bits4 (fun HT_ HW_ => ?_)
  generalize w12.drew = w13 at BK101 BK105 HI0 HK HB hHeld ⊢
  refine pure_ (i := 0) (N := some 10) (v := ?_) (a' := ?_) #[true, false, false, false, false, false, false, false] rfl rfl (b3z HT_.1 (by kernel_rfl)) (fun _ _ _ h => h) (Or.inl ⟨by rfl, ?_⟩) ?_ ?_
  rotate_left
  ·intro w'
   go_simp
   with_reducible rfl
  rotate_left
  ·simp only [Act.put, sA_, sZ_, sS_, i64_w, i32_w]
   rfl
  refine pure_ (i := 2) (N := some 12) (v := ?_) (a' := ?_) #[true, false, true, false, false, false, false, false] rfl rfl (b3z HT_.1 (by kernel_rfl)) (fun _ _ _ h => h) (Or.inl ⟨by rfl, ?_⟩) ?_ ?_
  rotate_left
  ·intro w'
   go_simp
   with_reducible rfl
  rotate_left
  ·simp only [Act.put, sA_, sZ_, sS_, i64_w, i32_w]
   rfl
  refine take_ (i := 1) (N := some 11) (v := ?_) (a' := ?_) #[true, true, true, false, false, false, false, false] rfl rfl (d6z HT_.1 HW_.1 (by kernel_rfl)) (fun _ _ _ h => h) (Or.inl ⟨by rfl, ?_⟩) hHeld ?_ ?_
  rotate_left
  ·rintro w' ⟨s0, s1⟩
   go_simp
   with_reducible rfl
  rotate_left
  ·simp only [Act.put, sA_, sZ_, sS_, i64_w, i32_w]
   rfl
  refine one_ (i := 3) (N := some 13) #[true, true, true, true, false, false, false, false] rfl rfl (e5z HT_.1 (by kernel_rfl)) (by decide) (fun K hK => ?_)
  refine Kd.g8z (Kd.int .i64) _ 3 ?hg (N := 13) ?hd (xs := ([1, (-1), 256] : List Int)) (inner := [.int .i64 1, .int .i64 (-1), .int .i64 256]) (ok := fun _ => True) (okp := fun _ => True) ?hr ?hp (fun _ hk => hk) trivial (Below.refl _ _) (Nat.le_refl _) (by simp) ?_; (case hd => rfl); (case hg => rfl); (case hr => first | (go_simp; done) | (go_simp; rfl)); (case hp => exact (Reps.one (show Kd.M (Kd.int .i64) _ _ _ 1 [.int .i64 1] from rfl) (Reps.one (show Kd.M (Kd.int .i64) _ _ _ (-1) [.int .i64 (-1)] from rfl) (Reps.one (show Kd.M (Kd.int .i64) _ _ _ 256 [.int .i64 256] from rfl) (Reps.none _ _)))))
  intro v109 w14 ho15 hb hg_ hnew_
  clear hg_ hnew_
  (first | rw [← Ny108.1] at ho15 | (simp only [Int.reduceToNat] at ho15; rw [← Ny108.1] at ho15))
  have n0_ := a1z.mk (Kd.c7z ho15 (e7z (w := w) (g := g) (row := none) (by repeat (first | (with_reducible first | exact HK.1 | apply b8z.set_ | apply c3z | apply c4z | apply keep_alloc | refine e2z ?_ GW101.1 _ | refine e2z ?_ GW105.1 _) | exact HK.1))))
  have n1_ := a1z.mk (a5z.below (by repeat (first | (with_reducible first | exact HI0.1 | apply a5z.alloc | apply a5z.drewN | apply a5z.drew | apply a5z.set_1 | refine a5z.far ?_ NB0_101.1 _ | refine a5z.far ?_ NB0_105.1 _) | exact HI0.1)) hb)
  have n2_ := a1z.mk (b7z (g := gb101) (o := .cells #[.int .i64 0, .int .i64 0] 24 (0, 0)) (by (with_reducible repeat (first | refine a6z ?_ _ | refine a7z ?_ | refine blk_alloc ?_ _)); exact BK101.1) hb)
  have n3_ := a1z.mk (b7z (g := gb105) (o := .cells #[.int .i64 t102, .int .i64 t103] 24 (0, 0)) (by (with_reducible repeat (first | refine a6z ?_ _ | refine a7z ?_ | refine blk_alloc ?_ _)); exact BK105.1) hb)
  have n4_ := a1z.mk (b8z.trans (by repeat (first | (with_reducible first | exact HK.1 | apply b8z.set_ | apply c3z | apply c4z | apply keep_alloc | refine e2z ?_ GW101.1 _ | refine e2z ?_ GW105.1 _) | exact HK.1)) (b8z.of_below hb g none) (.inl rfl))
  have n5_ := a1z.mk (b5z (by repeat (first | (with_reducible first | exact HB.1 | apply a3z | apply a0z | apply a2z | refine a4z ?_ (a5z.ge HI0.1) | refine a4z ?_ GE101.1 | refine a4z ?_ GE105.1) | exact HB.1)) hb)
  clear HI0
  clear BK101
  clear BK105
  clear HK
  clear HB
  have HO110 := n0_
  have HI0 := n1_
  have BK101 := n2_
  have BK105 := n3_
  have HK := n4_
  have HB := n5_
  clear n0_ n1_ n2_ n3_ n4_ n5_
  clear hb ho15
  obtain ⟨Ao16, co16, eo16⟩ := Kd.d2z HO110.1
  (first | subst eo16 | (injection eo16 with f1_ f2_ f3_; have f4_ := f1_.symm; have f5_ := f3_.symm; clear f1_ f2_ f3_; subst f4_; subst f5_))
  refine hK.out _ _ ⟨(a8z BK105.1 0).trans rfl, (a8z BK105.1 1).trans rfl⟩ (fun hHeld => ?_)
  clear hK K
  refine norm_ (a' := ?_) ?_ ?_
  rotate_left
  ·show Act.put _ (some 13) _ = _
   simp only [Act.put, sA_, sZ_, sS_, i64_w, i32_w]
   rfl
  refine one_ (i := 4) (N := some 14) #[true, true, true, true, true, false, false, false] rfl rfl (e5z HT_.1 (by kernel_rfl)) (by decide) (fun K hK => ?_)
  refine goes_ Try.func102 (by kernel_rfl) rfl #[.pointer (some ⟨g, 0, none⟩), .slice Ao16 y108.length co16] (by rfl) rfl rfl (by (try simp only [List.map_toArray, List.map_cons, List.map_nil]); first | done | rfl | (simp only [List.length_drop, List.length_take]; rfl)) ?_
  with_reducible refine (spec_l1Rd_one.calls k g s0_0 t107 _ _ y108 t111 t112 w0 _ ?side1 ?side2 ?side3 ?side4 ?side5 A5.1).mono ?_
  (case side1 => repeat (first | (with_reducible first | exact HI0.1 | apply a5z.alloc | apply a5z.drewN | apply a5z.drew | apply a5z.set_1 | refine a5z.far ?_ NB0_101.1 _ | refine a5z.far ?_ NB0_105.1 _) | exact HI0.1))
  (case side2 => repeat (first | (with_reducible first | exact HB.1 | apply a3z | apply a0z | apply a2z | refine a4z ?_ (a5z.ge HI0.1) | refine a4z ?_ GE101.1 | refine a4z ?_ GE105.1) | exact HB.1))
  (case side3 => repeat (first | exact (Kd.b6z HO110.1).2.2 | (with_reducible refine Kd.C_alloc ?_ _) | (with_reducible refine Kd.C_drewN ?_ _) | (with_reducible refine Kd.C_drew ?_)))
  (case side4 => exact (Kd.b6z HO110.1).2.1)
  (case side5 => exact h1z (a5z.own_ne HI0.1 HO110.1 (by decide)))
  rintro e w17 ⟨rfl, hi, hb, hk⟩
  refine ⟨_, rfl, ?_⟩
  have n0_ := a1z.mk (b8z.blk hk (g' := gb101) (o := .cells #[.int .i64 0, .int .i64 0] 24 (0, 0)) (by (with_reducible repeat (first | refine a6z ?_ _ | refine a7z ?_ | refine blk_alloc ?_ _)); exact BK101.1) NB101_0.1 (by simp))
  have n1_ := a1z.mk (b8z.blk hk (g' := gb105) (o := .cells #[.int .i64 t102, .int .i64 t103] 24 (0, 0)) (by (with_reducible repeat (first | refine a6z ?_ _ | refine a7z ?_ | refine blk_alloc ?_ _)); exact BK105.1) NB105_0.1 (by simp))
  have n2_ := a1z.mk (Kd.c8z (Kd.f5z (a5z.apart (show a5z w0 _ g s0_0 t107 from by repeat (first | (with_reducible first | exact HI0.1 | apply a5z.alloc | apply a5z.drewN | apply a5z.drew | apply a5z.set_1 | refine a5z.far ?_ NB0_101.1 _ | refine a5z.far ?_ NB0_105.1 _) | exact HI0.1)) (by (with_reducible repeat (first | apply Kd.R_alloc | apply Kd.b0z | apply Kd.b1z)); exact HO110.1) (by decide)) hk (fun _ h => h.2)) (fun _ h => h.1))
  have n3_ := a1z.mk (b8z.trans (by repeat (first | (with_reducible first | exact HK.1 | apply b8z.set_ | apply c3z | apply c4z | apply keep_alloc | refine e2z ?_ GW101.1 _ | refine e2z ?_ GW105.1 _) | exact HK.1)) hk (.inl rfl))
  have n4_ := a1z.mk (hb)
  have n5_ := a1z.mk (hi)
  clear BK101
  clear BK105
  clear HO110
  clear HK
  clear HB
  clear HI0
  have BK101 := n0_
  have BK105 := n1_
  have HO110 := n2_
  have HK := n3_
  have HB := n4_
  have HI0 := n5_
  clear n0_ n1_ n2_ n3_ n4_ n5_
  (try clear hb)
  (try clear hb2)
  (try clear hk)
  (try clear hi)
  refine hK.out _ _ ⟨(a8z BK105.1 0).trans rfl, (a8z BK105.1 1).trans rfl⟩ (fun hHeld => ?_)
  clear hK K
  refine norm_ (a' := ?_) ?_ ?_
  rotate_left
  ·show Act.put _ (some 14) _ = _
   simp only [Act.put, sA_, sZ_, sS_, i64_w, i32_w]
   rfl
  refine pure_ (i := 5) (N := some 15) (v := ?_) (a' := ?_) #[true, true, true, true, true, true, false, false] rfl rfl (b3z HT_.1 (by kernel_rfl)) (fun _ _ _ h => h) (Or.inl ⟨by rfl, ?_⟩) ?_ ?_
  rotate_left
  ·intro w'
   go_simp
   with_reducible rfl
  rotate_left
  ·simp only [Act.put, sA_, sZ_, sS_, i64_w, i32_w]
   rfl
  refine pure_ (i := 6) (N := some 16) (v := ?_) (a' := ?_) #[true, true, true, true, true, true, true, false] rfl rfl (b3z HT_.1 (by kernel_rfl)) (fun _ _ _ h => h) (Or.inl ⟨by rfl, ?_⟩) ?_ ?_
  rotate_left
  ·intro w'
   go_simp
   with_reducible rfl
  rotate_left
  ·simp only [Act.put, sA_, sZ_, sS_, i64_w, i32_w]
   rfl
  refine last_ (i := 7) (N := none) #[true, true, true, true, true, true, true, true] rfl rfl (e5z HT_.1 (by kernel_rfl)) (by decide) (fun K hK => ?_)
  have hs18 : w17.cell? ⟨gb105, 0, none⟩ = some (.int .i64 t102) := (a8z BK105.1 0).trans rfl
  have hfs18 := a9z BK105.1 0
  have hns18_0 := NB101_105.1
  have hms18_0 := NB105_101.1
  refine skip_ (w1 := ?_) (by rfl) rfl ?_ ?_
  rotate_left
  ·go_simp
   rfl
  refine hK.out _ _ ?_
  clear hK K
  refine done_ (f6z HT_.1 (by kernel_rfl)) ?_
  have hcz19_0 : w17.cell? ⟨gb105, 0, none⟩ = some (.int .i64 t102) := (a8z BK105.1 0).trans rfl
  have hcz19_1 : w17.cell? ⟨gb105, 1, none⟩ = some (.int .i64 t103) := (a8z BK105.1 1).trans rfl
  have hfz19_0 := a9z BK105.1 0
  have hfz19_1 := a9z BK105.1 1
  have hnb20 := NB101_0.1
  have hnc20 := NB0_101.1
  have hcz21_0 : w17.cell? ⟨gb101, 0, none⟩ = some (.int .i64 0) := (a8z BK101.1 0).trans rfl
  have hcz21_1 : w17.cell? ⟨gb101, 1, none⟩ = some (.int .i64 0) := (a8z BK101.1 1).trans rfl
  have hfz21_0 := a9z BK101.1 0
  have hfz21_1 := a9z BK101.1 1
  try go_wp2
  refine bodyPost_ret (results_cell_row rfl _ _ gb101 24 #[.int .i64 (wrap64 (t102 + t111)), .int .i64 t103] (0, 0) _ rfl (by (with_reducible repeat (first | refine a6z ?_ _ | refine a7z ?_ | refine blk_alloc ?_ _)); refine d3z (cs := #[.int .i64 (wrap64 (t102 + t111)), .int .i64 0]) ?_ 1 _ rfl; (with_reducible repeat (first | refine a6z ?_ _ | refine a7z ?_ | refine blk_alloc ?_ _)); refine d3z (cs := #[.int .i64 0, .int .i64 0]) ?_ 0 _ rfl; (with_reducible repeat (first | refine a6z ?_ _ | refine a7z ?_ | refine blk_alloc ?_ _)); refine f2z ?_ NB101_105.1 _; (with_reducible repeat (first | refine a6z ?_ _ | refine a7z ?_ | refine blk_alloc ?_ _)); exact BK101.1) Try.underlying24 rfl (by kernel_rfl)) rfl ?_
  exact ⟨by first | rfl | (simp [c1z, c0z] <;> rfl) | (simp [*, c1z, c0z] <;> rfl), by repeat (first | (with_reducible first | exact HI0.1 | apply a5z.alloc | apply a5z.drewN | apply a5z.drew | apply a5z.set_1 | refine a5z.far ?_ NB0_101.1 _ | refine a5z.far ?_ NB0_105.1 _) | exact HI0.1), by repeat (first | (with_reducible first | exact HB.1 | apply a3z | apply a0z | apply a2z | refine a4z ?_ (a5z.ge HI0.1) | refine a4z ?_ GE101.1 | refine a4z ?_ GE105.1) | exact HB.1), by repeat (first | (with_reducible first | exact HK.1 | apply b8z.set_ | apply c3z | apply c4z | apply keep_alloc | refine e2z ?_ GW101.1 _ | refine e2z ?_ GW105.1 _) | exact HK.1)⟩
 ·rw [if_neg c4] at H
  have c4b0 : (t106 == 0) = false := beq_eq_false_iff_ne.mpr c4
  have c4b1 : (t106 != 0) = true := bne_iff_ne.mpr c4
  by_cases c22 : t106 = 1
  ·rw [if_pos c22] at H
   have c22b0 : (t106 == 1) = true := beq_iff_eq.mpr c22
   have c22b1 : (t106 != 1) = false := bne_eq_false_iff_eq.mpr c22
   clear c22
   obtain ⟨y113, hy113⟩ : ∃ y_ : List Int, y_ = (([(-1), 33, 0, 32] : List Int)) := ⟨_, rfl⟩
   replace H : ((spec_l1Rd_one.f k s0_0 t107 y113).bind fun bt116 => (some (t102, bt116.1, bt116.2))) = some (r1, r2, r3) := by first | (rw [hy113]; with_reducible exact H) | (have H2_ := (Option.bind_some _ _).symm.trans H; rw [hy113]; with_reducible exact H2_) | (have H2_ := (Option.bind_some _ _).symm.trans H; with_reducible exact H2_) | with_reducible exact H | (rw [hy113]; exact H) | exact H
   have Ny113 := a1z.mk hy113
   clear hy113
   replace H := Option.bind_eq_some_iff.mp H
   obtain ⟨⟨t116, t117⟩, A230, H⟩ := H
   replace H : (some (t102, t116, t117)) = some (r1, r2, r3) := H
   have A23 := a1z.mk A230
   clear A230
   simp only [Option.some.injEq, Prod.mk.injEq] at H
   obtain ⟨rfl, rfl, rfl⟩ := H
   go_enter Try.func101, Try.ntmps101
   go_wp2_with (first | ((with_reducible refine c9z (N := 2) rfl ?_); refine d0z ?hg (N := 2) ?hd (cs := #[.int .i64 0, .int .i64 0]) (t := 24) ?hr ?_; (case hd => rfl); (case hg => rfl); (case hr => first | (go_simp; done) | (go_simp; rfl)); intro gb101 hg w24 hbox hb; have n0_ := a1z.mk (a5z.below (by repeat (first | (with_reducible first | exact HI0.1 | apply a5z.alloc | apply a5z.drewN | apply a5z.drew | apply a5z.set_1) | exact HI0.1)) hb); have n1_ := a1z.mk (b8z.trans (by repeat (first | (with_reducible first | exact HK.1 | apply b8z.set_ | apply c3z | apply c4z | apply keep_alloc) | exact HK.1)) (b8z.of_below hb g none) (.inl rfl)); have n2_ := a1z.mk (b5z (by repeat (first | (with_reducible first | exact HB.1 | apply a3z | apply a0z | apply a2z | refine a4z ?_ (a5z.ge HI0.1)) | exact HB.1)) hb); have n3_ := a1z.mk (hbox); have n4_ := a1z.mk ((by rw [hg]; exact (e7z (w := w) (g := g) (row := none) (by repeat (first | (with_reducible first | exact HK.1 | apply b8z.set_ | apply c3z | apply c4z | apply keep_alloc) | exact HK.1))) : w.heap.size ≤ gb101)); have n5_ := a1z.mk ((Nat.le_trans HW0.1 (by rw [hg]; exact (e7z (w := w) (g := g) (row := none) (by repeat (first | (with_reducible first | exact HK.1 | apply b8z.set_ | apply c3z | apply c4z | apply keep_alloc) | exact HK.1))) : w.heap.size ≤ gb101) : w0.heap.size ≤ gb101)); have n6_ := a1z.mk ((by rw [hg]; exact Nat.ne_of_lt (a5z.lt (show a5z w0 _ g s0_0 s0_1 from by repeat (first | (with_reducible first | exact HI0.1 | apply a5z.alloc | apply a5z.drewN | apply a5z.drew | apply a5z.set_1) | exact HI0.1))) : g ≠ gb101)); have n7_ := a1z.mk ((by rw [hg]; exact Nat.ne_of_gt (a5z.lt (show a5z w0 _ g s0_0 s0_1 from by repeat (first | (with_reducible first | exact HI0.1 | apply a5z.alloc | apply a5z.drewN | apply a5z.drew | apply a5z.set_1) | exact HI0.1))) : gb101 ≠ g)); clear HI0; clear HK; clear HB; have HI0 := n0_; have HK := n1_; have HB := n2_; have BK101 := n3_; have GW101 := n4_; have GE101 := n5_; have NB0_101 := n6_; have NB101_0 := n7_; clear n0_ n1_ n2_ n3_ n4_ n5_ n6_ n7_; clear hb hbox hg) | ((with_reducible refine c2z (f := 118) rfl ?_); refine d1z (some 5) rfl rfl Try.func118 (by kernel_rfl) rfl #[.pointer (some ⟨g, 0, none⟩)] rfl (by (try simp only [List.map_toArray, List.map_cons, List.map_nil]); first | done | rfl | (simp only [List.length_drop, List.length_take]; rfl)) ?_; (with_reducible refine (spec_l12Block.calls k g s0_0 s0_1 t102 t103 t104 w0 _ ?side1 ?side2 A2.1).mono ?_); (case side1 => repeat (first | (with_reducible first | exact HI0.1 | apply a5z.alloc | apply a5z.drewN | apply a5z.drew | apply a5z.set_1 | refine a5z.far ?_ NB0_101.1 _) | exact HI0.1)); (case side2 => repeat (first | (with_reducible first | exact HB.1 | apply a3z | apply a0z | apply a2z | refine a4z ?_ (a5z.ge HI0.1) | refine a4z ?_ GE101.1) | exact HB.1)); rintro e w25 ⟨rfl, hi, hb, hk⟩; refine ⟨_, rfl, ?_⟩; have n0_ := a1z.mk (b8z.blk hk (g' := gb101) (o := .cells #[.int .i64 0, .int .i64 0] 24 (0, 0)) (by (with_reducible repeat (first | refine a6z ?_ _ | refine a7z ?_ | refine blk_alloc ?_ _)); exact BK101.1) NB101_0.1 (by simp)); have n1_ := a1z.mk (b8z.trans (by repeat (first | (with_reducible first | exact HK.1 | apply b8z.set_ | apply c3z | apply c4z | apply keep_alloc | refine e2z ?_ GW101.1 _) | exact HK.1)) hk (.inl rfl)); have n2_ := a1z.mk (hb); have n3_ := a1z.mk (hi); clear BK101; clear HK; clear HB; clear HI0; have BK101 := n0_; have HK := n1_; have HB := n2_; have HI0 := n3_; clear n0_ n1_ n2_ n3_; (try clear hb); (try clear hb2); (try clear hk); (try clear hi)) | ((with_reducible refine c9z (N := 3) rfl ?_); refine d0z ?hg (N := 3) ?hd (cs := #[.int .i64 0, .int .i64 0]) (t := 24) ?hr ?_; (case hd => rfl); (case hg => rfl); (case hr => first | (go_simp; done) | (go_simp; rfl)); intro gb105 hg w26 hbox hb; have n0_ := a1z.mk (a5z.below (by repeat (first | (with_reducible first | exact HI0.1 | apply a5z.alloc | apply a5z.drewN | apply a5z.drew | apply a5z.set_1 | refine a5z.far ?_ NB0_101.1 _) | exact HI0.1)) hb); have n1_ := a1z.mk (b7z (g := gb101) (o := .cells #[.int .i64 0, .int .i64 0] 24 (0, 0)) (by (with_reducible repeat (first | refine a6z ?_ _ | refine a7z ?_ | refine blk_alloc ?_ _)); exact BK101.1) hb); have n2_ := a1z.mk (b8z.trans (by repeat (first | (with_reducible first | exact HK.1 | apply b8z.set_ | apply c3z | apply c4z | apply keep_alloc | refine e2z ?_ GW101.1 _) | exact HK.1)) (b8z.of_below hb g none) (.inl rfl)); have n3_ := a1z.mk (b5z (by repeat (first | (with_reducible first | exact HB.1 | apply a3z | apply a0z | apply a2z | refine a4z ?_ (a5z.ge HI0.1) | refine a4z ?_ GE101.1) | exact HB.1)) hb); have n4_ := a1z.mk (hbox); have n5_ := a1z.mk ((by rw [hg]; exact (e7z (w := w) (g := g) (row := none) (by repeat (first | (with_reducible first | exact HK.1 | apply b8z.set_ | apply c3z | apply c4z | apply keep_alloc | refine e2z ?_ GW101.1 _) | exact HK.1))) : w.heap.size ≤ gb105)); have n6_ := a1z.mk ((Nat.le_trans HW0.1 (by rw [hg]; exact (e7z (w := w) (g := g) (row := none) (by repeat (first | (with_reducible first | exact HK.1 | apply b8z.set_ | apply c3z | apply c4z | apply keep_alloc | refine e2z ?_ GW101.1 _) | exact HK.1))) : w.heap.size ≤ gb105) : w0.heap.size ≤ gb105)); have n7_ := a1z.mk ((by rw [hg]; exact Nat.ne_of_lt (f1z (g := gb101) (o := .cells #[.int .i64 0, .int .i64 0] 24 (0, 0)) (by (with_reducible repeat (first | refine a6z ?_ _ | refine a7z ?_ | refine blk_alloc ?_ _)); exact BK101.1)) : gb101 ≠ gb105)); have n8_ := a1z.mk ((by rw [hg]; exact Nat.ne_of_gt (f1z (g := gb101) (o := .cells #[.int .i64 0, .int .i64 0] 24 (0, 0)) (by (with_reducible repeat (first | refine a6z ?_ _ | refine a7z ?_ | refine blk_alloc ?_ _)); exact BK101.1)) : gb105 ≠ gb101)); have n9_ := a1z.mk ((by rw [hg]; exact Nat.ne_of_lt (a5z.lt (show a5z w0 _ g s0_0 t104 from by repeat (first | (with_reducible first | exact HI0.1 | apply a5z.alloc | apply a5z.drewN | apply a5z.drew | apply a5z.set_1 | refine a5z.far ?_ NB0_101.1 _) | exact HI0.1))) : g ≠ gb105)); have n10_ := a1z.mk ((by rw [hg]; exact Nat.ne_of_gt (a5z.lt (show a5z w0 _ g s0_0 t104 from by repeat (first | (with_reducible first | exact HI0.1 | apply a5z.alloc | apply a5z.drewN | apply a5z.drew | apply a5z.set_1 | refine a5z.far ?_ NB0_101.1 _) | exact HI0.1))) : gb105 ≠ g)); clear HI0; clear BK101; clear HK; clear HB; have HI0 := n0_; have BK101 := n1_; have HK := n2_; have HB := n3_; have BK105 := n4_; have GW105 := n5_; have GE105 := n6_; have NB101_105 := n7_; have NB105_101 := n8_; have NB0_105 := n9_; have NB105_0 := n10_; clear n0_ n1_ n2_ n3_ n4_ n5_ n6_ n7_ n8_ n9_ n10_; clear hb hbox hg; have hnb27 := NB105_101.1; have hnc27 := NB101_105.1; have hnb28 := NB105_0.1; have hnc28 := NB0_105.1; have hcz29_0 : w26.cell? ⟨gb105, 0, none⟩ = some (.int .i64 0) := (a8z BK105.1 0).trans rfl; have hcz29_1 : w26.cell? ⟨gb105, 1, none⟩ = some (.int .i64 0) := (a8z BK105.1 1).trans rfl; have hfz29_0 := a9z BK105.1 0; have hfz29_1 := a9z BK105.1 1) | ((with_reducible refine c2z (f := 89) rfl ?_); refine d1z (some 7) rfl rfl Try.func89 (by kernel_rfl) rfl #[.pointer (some ⟨g, 0, none⟩), .int .i64 16] rfl (by (try simp only [List.map_toArray, List.map_cons, List.map_nil]); first | done | rfl | (simp only [List.length_drop, List.length_take]; rfl)) ?_; (with_reducible refine (spec_l1Rd_pick.calls k g s0_0 t104 16 t106 t107 w0 _ ?side1 ?side2 A3.1).mono ?_); (case side1 => repeat (first | (with_reducible first | exact HI0.1 | apply a5z.alloc | apply a5z.drewN | apply a5z.drew | apply a5z.set_1 | refine a5z.far ?_ NB0_101.1 _ | refine a5z.far ?_ NB0_105.1 _) | exact HI0.1)); (case side2 => repeat (first | (with_reducible first | exact HB.1 | apply a3z | apply a0z | apply a2z | refine a4z ?_ (a5z.ge HI0.1) | refine a4z ?_ GE101.1 | refine a4z ?_ GE105.1) | exact HB.1)); rintro e w30 ⟨rfl, hi, hb, hk⟩; refine ⟨_, rfl, ?_⟩; have n0_ := a1z.mk (b8z.blk hk (g' := gb101) (o := .cells #[.int .i64 0, .int .i64 0] 24 (0, 0)) (by (with_reducible repeat (first | refine a6z ?_ _ | refine a7z ?_ | refine blk_alloc ?_ _)); refine f2z ?_ NB101_105.1 _; (with_reducible repeat (first | refine a6z ?_ _ | refine a7z ?_ | refine blk_alloc ?_ _)); refine f2z ?_ NB101_105.1 _; (with_reducible repeat (first | refine a6z ?_ _ | refine a7z ?_ | refine blk_alloc ?_ _)); exact BK101.1) NB101_0.1 (by simp)); have n1_ := a1z.mk (b8z.blk hk (g' := gb105) (o := .cells #[.int .i64 t102, .int .i64 t103] 24 (0, 0)) (by (with_reducible repeat (first | refine a6z ?_ _ | refine a7z ?_ | refine blk_alloc ?_ _)); refine d3z (cs := #[.int .i64 t102, .int .i64 0]) ?_ 1 _ rfl; (with_reducible repeat (first | refine a6z ?_ _ | refine a7z ?_ | refine blk_alloc ?_ _)); refine d3z (cs := #[.int .i64 0, .int .i64 0]) ?_ 0 _ rfl; (with_reducible repeat (first | refine a6z ?_ _ | refine a7z ?_ | refine blk_alloc ?_ _)); exact BK105.1) NB105_0.1 (by simp)); have n2_ := a1z.mk (b8z.trans (by repeat (first | (with_reducible first | exact HK.1 | apply b8z.set_ | apply c3z | apply c4z | apply keep_alloc | refine e2z ?_ GW101.1 _ | refine e2z ?_ GW105.1 _) | exact HK.1)) hk (.inl rfl)); have n3_ := a1z.mk (hb); have n4_ := a1z.mk (hi); clear BK101; clear BK105; clear HK; clear HB; clear HI0; have BK101 := n0_; have BK105 := n1_; have HK := n2_; have HB := n3_; have HI0 := n4_; clear n0_ n1_ n2_ n3_ n4_; (try clear hb); (try clear hb2); (try clear hk); (try clear hi)) | ((with_reducible refine c9z (N := 20) rfl ?_); refine Kd.R_lit (Kd.int .i64) _ 3 ?hg (N := 20) ?hd (xs := ([(-1), 33, 0, 32] : List Int)) (inner := [.int .i64 (-1), .int .i64 33, .int .i64 0, .int .i64 32]) (ok := fun _ => True) (okp := fun _ => True) ?hr ?hp (fun _ hk => hk) trivial (Below.refl _ _) (Nat.le_refl _) (by simp) ?_; (case hd => rfl); (case hg => rfl); (case hr => first | (go_simp; done) | (go_simp; rfl)); (case hp => exact (Reps.one (show Kd.M (Kd.int .i64) _ _ _ (-1) [.int .i64 (-1)] from rfl) (Reps.one (show Kd.M (Kd.int .i64) _ _ _ 33 [.int .i64 33] from rfl) (Reps.one (show Kd.M (Kd.int .i64) _ _ _ 0 [.int .i64 0] from rfl) (Reps.one (show Kd.M (Kd.int .i64) _ _ _ 32 [.int .i64 32] from rfl) (Reps.none _ _)))))); intro v114 w31 ho32 hb hg_ hnew_; clear hg_ hnew_; (first | rw [← Ny113.1] at ho32 | (simp only [Int.reduceToNat] at ho32; rw [← Ny113.1] at ho32)); have n0_ := a1z.mk (Kd.c7z ho32 (e7z (w := w) (g := g) (row := none) (by repeat (first | (with_reducible first | exact HK.1 | apply b8z.set_ | apply c3z | apply c4z | apply keep_alloc | refine e2z ?_ GW101.1 _ | refine e2z ?_ GW105.1 _) | exact HK.1)))); have n1_ := a1z.mk (a5z.below (by repeat (first | (with_reducible first | exact HI0.1 | apply a5z.alloc | apply a5z.drewN | apply a5z.drew | apply a5z.set_1 | refine a5z.far ?_ NB0_101.1 _ | refine a5z.far ?_ NB0_105.1 _) | exact HI0.1)) hb); have n2_ := a1z.mk (b7z (g := gb101) (o := .cells #[.int .i64 0, .int .i64 0] 24 (0, 0)) (by (with_reducible repeat (first | refine a6z ?_ _ | refine a7z ?_ | refine blk_alloc ?_ _)); exact BK101.1) hb); have n3_ := a1z.mk (b7z (g := gb105) (o := .cells #[.int .i64 t102, .int .i64 t103] 24 (0, 0)) (by (with_reducible repeat (first | refine a6z ?_ _ | refine a7z ?_ | refine blk_alloc ?_ _)); exact BK105.1) hb); have n4_ := a1z.mk (b8z.trans (by repeat (first | (with_reducible first | exact HK.1 | apply b8z.set_ | apply c3z | apply c4z | apply keep_alloc | refine e2z ?_ GW101.1 _ | refine e2z ?_ GW105.1 _) | exact HK.1)) (b8z.of_below hb g none) (.inl rfl)); have n5_ := a1z.mk (b5z (by repeat (first | (with_reducible first | exact HB.1 | apply a3z | apply a0z | apply a2z | refine a4z ?_ (a5z.ge HI0.1) | refine a4z ?_ GE101.1 | refine a4z ?_ GE105.1) | exact HB.1)) hb); clear HI0; clear BK101; clear BK105; clear HK; clear HB; have HO115 := n0_; have HI0 := n1_; have BK101 := n2_; have BK105 := n3_; have HK := n4_; have HB := n5_; clear n0_ n1_ n2_ n3_ n4_ n5_; clear hb ho32; obtain ⟨Ao33, co33, eo33⟩ := Kd.d2z HO115.1; subst eo33) | ((with_reducible refine c2z (f := 102) rfl ?_); refine d1z (some 21) rfl rfl Try.func102 (by kernel_rfl) rfl #[.pointer (some ⟨g, 0, none⟩), .slice Ao33 y113.length co33] rfl (by (try simp only [List.map_toArray, List.map_cons, List.map_nil]); first | done | rfl | (simp only [List.length_drop, List.length_take]; rfl)) ?_; (with_reducible refine (spec_l1Rd_one.calls k g s0_0 t107 _ _ y113 t116 t117 w0 _ ?side1 ?side2 ?side3 ?side4 ?side5 A23.1).mono ?_); (case side1 => repeat (first | (with_reducible first | exact HI0.1 | apply a5z.alloc | apply a5z.drewN | apply a5z.drew | apply a5z.set_1 | refine a5z.far ?_ NB0_101.1 _ | refine a5z.far ?_ NB0_105.1 _) | exact HI0.1)); (case side2 => repeat (first | (with_reducible first | exact HB.1 | apply a3z | apply a0z | apply a2z | refine a4z ?_ (a5z.ge HI0.1) | refine a4z ?_ GE101.1 | refine a4z ?_ GE105.1) | exact HB.1)); (case side3 => repeat (first | exact (Kd.b6z HO115.1).2.2 | (with_reducible refine Kd.C_alloc ?_ _) | (with_reducible refine Kd.C_drewN ?_ _) | (with_reducible refine Kd.C_drew ?_))); (case side4 => exact (Kd.b6z HO115.1).2.1); (case side5 => exact h1z (a5z.own_ne HI0.1 HO115.1 (by decide))); rintro e w34 ⟨rfl, hi, hb, hk⟩; refine ⟨_, rfl, ?_⟩; have n0_ := a1z.mk (b8z.blk hk (g' := gb101) (o := .cells #[.int .i64 0, .int .i64 0] 24 (0, 0)) (by (with_reducible repeat (first | refine a6z ?_ _ | refine a7z ?_ | refine blk_alloc ?_ _)); exact BK101.1) NB101_0.1 (by simp)); have n1_ := a1z.mk (b8z.blk hk (g' := gb105) (o := .cells #[.int .i64 t102, .int .i64 t103] 24 (0, 0)) (by (with_reducible repeat (first | refine a6z ?_ _ | refine a7z ?_ | refine blk_alloc ?_ _)); exact BK105.1) NB105_0.1 (by simp)); have n2_ := a1z.mk (Kd.c8z (Kd.f5z (a5z.apart (show a5z w0 _ g s0_0 t107 from by repeat (first | (with_reducible first | exact HI0.1 | apply a5z.alloc | apply a5z.drewN | apply a5z.drew | apply a5z.set_1 | refine a5z.far ?_ NB0_101.1 _ | refine a5z.far ?_ NB0_105.1 _) | exact HI0.1)) (by (with_reducible repeat (first | apply Kd.R_alloc | apply Kd.b0z | apply Kd.b1z)); exact HO115.1) (by decide)) hk (fun _ h => h.2)) (fun _ h => h.1)); have n3_ := a1z.mk (b8z.trans (by repeat (first | (with_reducible first | exact HK.1 | apply b8z.set_ | apply c3z | apply c4z | apply keep_alloc | refine e2z ?_ GW101.1 _ | refine e2z ?_ GW105.1 _) | exact HK.1)) hk (.inl rfl)); have n4_ := a1z.mk (hb); have n5_ := a1z.mk (hi); clear BK101; clear BK105; clear HO115; clear HK; clear HB; clear HI0; have BK101 := n0_; have BK105 := n1_; have HO115 := n2_; have HK := n3_; have HB := n4_; have HI0 := n5_; clear n0_ n1_ n2_ n3_ n4_ n5_; (try clear hb); (try clear hb2); (try clear hk); (try clear hi); have hcz35_0 : w34.cell? ⟨gb105, 0, none⟩ = some (.int .i64 t102) := (a8z BK105.1 0).trans rfl; have hcz35_1 : w34.cell? ⟨gb105, 1, none⟩ = some (.int .i64 t103) := (a8z BK105.1 1).trans rfl; have hfz35_0 := a9z BK105.1 0; have hfz35_1 := a9z BK105.1 1; have hnb36 := NB101_0.1; have hnc36 := NB0_101.1; have hcz37_0 : w34.cell? ⟨gb101, 0, none⟩ = some (.int .i64 0) := (a8z BK101.1 0).trans rfl; have hcz37_1 : w34.cell? ⟨gb101, 1, none⟩ = some (.int .i64 0) := (a8z BK101.1 1).trans rfl; have hfz37_0 := a9z BK101.1 0; have hfz37_1 := a9z BK101.1 1))
   refine bodyPost_ret (results_cell_row rfl _ _ gb101 24 #[.int .i64 t102, .int .i64 t116] (0, 0) _ rfl (by (with_reducible repeat (first | refine a6z ?_ _ | refine a7z ?_ | refine blk_alloc ?_ _)); refine d3z (cs := #[.int .i64 t102, .int .i64 0]) ?_ 1 _ rfl; (with_reducible repeat (first | refine a6z ?_ _ | refine a7z ?_ | refine blk_alloc ?_ _)); refine d3z (cs := #[.int .i64 0, .int .i64 0]) ?_ 0 _ rfl; (with_reducible repeat (first | refine a6z ?_ _ | refine a7z ?_ | refine blk_alloc ?_ _)); refine f2z ?_ NB101_105.1 _; (with_reducible repeat (first | refine a6z ?_ _ | refine a7z ?_ | refine blk_alloc ?_ _)); exact BK101.1) Try.underlying24 rfl (by kernel_rfl)) rfl ?_
   exact ⟨by first | rfl | (simp [c1z, c0z] <;> rfl) | (simp [*, c1z, c0z] <;> rfl), by repeat (first | (with_reducible first | exact HI0.1 | apply a5z.alloc | apply a5z.drewN | apply a5z.drew | apply a5z.set_1 | refine a5z.far ?_ NB0_101.1 _ | refine a5z.far ?_ NB0_105.1 _) | exact HI0.1), by repeat (first | (with_reducible first | exact HB.1 | apply a3z | apply a0z | apply a2z | refine a4z ?_ (a5z.ge HI0.1) | refine a4z ?_ GE101.1 | refine a4z ?_ GE105.1) | exact HB.1), by repeat (first | (with_reducible first | exact HK.1 | apply b8z.set_ | apply c3z | apply c4z | apply keep_alloc | refine e2z ?_ GW101.1 _ | refine e2z ?_ GW105.1 _) | exact HK.1)⟩
  ·rw [if_neg c22] at H
   have c22b0 : (t106 == 1) = false := beq_eq_false_iff_ne.mpr c22
   have c22b1 : (t106 != 1) = true := bne_iff_ne.mpr c22
   simp only [Option.some.injEq, Prod.mk.injEq] at H
   obtain ⟨rfl, rfl, rfl⟩ := H
   go_enter Try.func101, Try.ntmps101
   go_wp2_with (first | ((with_reducible refine c9z (N := 2) rfl ?_); refine d0z ?hg (N := 2) ?hd (cs := #[.int .i64 0, .int .i64 0]) (t := 24) ?hr ?_; (case hd => rfl); (case hg => rfl); (case hr => first | (go_simp; done) | (go_simp; rfl)); intro gb101 hg w38 hbox hb; have n0_ := a1z.mk (a5z.below (by repeat (first | (with_reducible first | exact HI0.1 | apply a5z.alloc | apply a5z.drewN | apply a5z.drew | apply a5z.set_1) | exact HI0.1)) hb); have n1_ := a1z.mk (b8z.trans (by repeat (first | (with_reducible first | exact HK.1 | apply b8z.set_ | apply c3z | apply c4z | apply keep_alloc) | exact HK.1)) (b8z.of_below hb g none) (.inl rfl)); have n2_ := a1z.mk (b5z (by repeat (first | (with_reducible first | exact HB.1 | apply a3z | apply a0z | apply a2z | refine a4z ?_ (a5z.ge HI0.1)) | exact HB.1)) hb); have n3_ := a1z.mk (hbox); have n4_ := a1z.mk ((by rw [hg]; exact (e7z (w := w) (g := g) (row := none) (by repeat (first | (with_reducible first | exact HK.1 | apply b8z.set_ | apply c3z | apply c4z | apply keep_alloc) | exact HK.1))) : w.heap.size ≤ gb101)); have n5_ := a1z.mk ((Nat.le_trans HW0.1 (by rw [hg]; exact (e7z (w := w) (g := g) (row := none) (by repeat (first | (with_reducible first | exact HK.1 | apply b8z.set_ | apply c3z | apply c4z | apply keep_alloc) | exact HK.1))) : w.heap.size ≤ gb101) : w0.heap.size ≤ gb101)); have n6_ := a1z.mk ((by rw [hg]; exact Nat.ne_of_lt (a5z.lt (show a5z w0 _ g s0_0 s0_1 from by repeat (first | (with_reducible first | exact HI0.1 | apply a5z.alloc | apply a5z.drewN | apply a5z.drew | apply a5z.set_1) | exact HI0.1))) : g ≠ gb101)); have n7_ := a1z.mk ((by rw [hg]; exact Nat.ne_of_gt (a5z.lt (show a5z w0 _ g s0_0 s0_1 from by repeat (first | (with_reducible first | exact HI0.1 | apply a5z.alloc | apply a5z.drewN | apply a5z.drew | apply a5z.set_1) | exact HI0.1))) : gb101 ≠ g)); clear HI0; clear HK; clear HB; have HI0 := n0_; have HK := n1_; have HB := n2_; have BK101 := n3_; have GW101 := n4_; have GE101 := n5_; have NB0_101 := n6_; have NB101_0 := n7_; clear n0_ n1_ n2_ n3_ n4_ n5_ n6_ n7_; clear hb hbox hg) | ((with_reducible refine c2z (f := 118) rfl ?_); refine d1z (some 5) rfl rfl Try.func118 (by kernel_rfl) rfl #[.pointer (some ⟨g, 0, none⟩)] rfl (by (try simp only [List.map_toArray, List.map_cons, List.map_nil]); first | done | rfl | (simp only [List.length_drop, List.length_take]; rfl)) ?_; (with_reducible refine (spec_l12Block.calls k g s0_0 s0_1 t102 t103 t104 w0 _ ?side1 ?side2 A2.1).mono ?_); (case side1 => repeat (first | (with_reducible first | exact HI0.1 | apply a5z.alloc | apply a5z.drewN | apply a5z.drew | apply a5z.set_1 | refine a5z.far ?_ NB0_101.1 _) | exact HI0.1)); (case side2 => repeat (first | (with_reducible first | exact HB.1 | apply a3z | apply a0z | apply a2z | refine a4z ?_ (a5z.ge HI0.1) | refine a4z ?_ GE101.1) | exact HB.1)); rintro e w39 ⟨rfl, hi, hb, hk⟩; refine ⟨_, rfl, ?_⟩; have n0_ := a1z.mk (b8z.blk hk (g' := gb101) (o := .cells #[.int .i64 0, .int .i64 0] 24 (0, 0)) (by (with_reducible repeat (first | refine a6z ?_ _ | refine a7z ?_ | refine blk_alloc ?_ _)); exact BK101.1) NB101_0.1 (by simp)); have n1_ := a1z.mk (b8z.trans (by repeat (first | (with_reducible first | exact HK.1 | apply b8z.set_ | apply c3z | apply c4z | apply keep_alloc | refine e2z ?_ GW101.1 _) | exact HK.1)) hk (.inl rfl)); have n2_ := a1z.mk (hb); have n3_ := a1z.mk (hi); clear BK101; clear HK; clear HB; clear HI0; have BK101 := n0_; have HK := n1_; have HB := n2_; have HI0 := n3_; clear n0_ n1_ n2_ n3_; (try clear hb); (try clear hb2); (try clear hk); (try clear hi)) | ((with_reducible refine c9z (N := 3) rfl ?_); refine d0z ?hg (N := 3) ?hd (cs := #[.int .i64 0, .int .i64 0]) (t := 24) ?hr ?_; (case hd => rfl); (case hg => rfl); (case hr => first | (go_simp; done) | (go_simp; rfl)); intro gb105 hg w40 hbox hb; have n0_ := a1z.mk (a5z.below (by repeat (first | (with_reducible first | exact HI0.1 | apply a5z.alloc | apply a5z.drewN | apply a5z.drew | apply a5z.set_1 | refine a5z.far ?_ NB0_101.1 _) | exact HI0.1)) hb); have n1_ := a1z.mk (b7z (g := gb101) (o := .cells #[.int .i64 0, .int .i64 0] 24 (0, 0)) (by (with_reducible repeat (first | refine a6z ?_ _ | refine a7z ?_ | refine blk_alloc ?_ _)); exact BK101.1) hb); have n2_ := a1z.mk (b8z.trans (by repeat (first | (with_reducible first | exact HK.1 | apply b8z.set_ | apply c3z | apply c4z | apply keep_alloc | refine e2z ?_ GW101.1 _) | exact HK.1)) (b8z.of_below hb g none) (.inl rfl)); have n3_ := a1z.mk (b5z (by repeat (first | (with_reducible first | exact HB.1 | apply a3z | apply a0z | apply a2z | refine a4z ?_ (a5z.ge HI0.1) | refine a4z ?_ GE101.1) | exact HB.1)) hb); have n4_ := a1z.mk (hbox); have n5_ := a1z.mk ((by rw [hg]; exact (e7z (w := w) (g := g) (row := none) (by repeat (first | (with_reducible first | exact HK.1 | apply b8z.set_ | apply c3z | apply c4z | apply keep_alloc | refine e2z ?_ GW101.1 _) | exact HK.1))) : w.heap.size ≤ gb105)); have n6_ := a1z.mk ((Nat.le_trans HW0.1 (by rw [hg]; exact (e7z (w := w) (g := g) (row := none) (by repeat (first | (with_reducible first | exact HK.1 | apply b8z.set_ | apply c3z | apply c4z | apply keep_alloc | refine e2z ?_ GW101.1 _) | exact HK.1))) : w.heap.size ≤ gb105) : w0.heap.size ≤ gb105)); have n7_ := a1z.mk ((by rw [hg]; exact Nat.ne_of_lt (f1z (g := gb101) (o := .cells #[.int .i64 0, .int .i64 0] 24 (0, 0)) (by (with_reducible repeat (first | refine a6z ?_ _ | refine a7z ?_ | refine blk_alloc ?_ _)); exact BK101.1)) : gb101 ≠ gb105)); have n8_ := a1z.mk ((by rw [hg]; exact Nat.ne_of_gt (f1z (g := gb101) (o := .cells #[.int .i64 0, .int .i64 0] 24 (0, 0)) (by (with_reducible repeat (first | refine a6z ?_ _ | refine a7z ?_ | refine blk_alloc ?_ _)); exact BK101.1)) : gb105 ≠ gb101)); have n9_ := a1z.mk ((by rw [hg]; exact Nat.ne_of_lt (a5z.lt (show a5z w0 _ g s0_0 t104 from by repeat (first | (with_reducible first | exact HI0.1 | apply a5z.alloc | apply a5z.drewN | apply a5z.drew | apply a5z.set_1 | refine a5z.far ?_ NB0_101.1 _) | exact HI0.1))) : g ≠ gb105)); have n10_ := a1z.mk ((by rw [hg]; exact Nat.ne_of_gt (a5z.lt (show a5z w0 _ g s0_0 t104 from by repeat (first | (with_reducible first | exact HI0.1 | apply a5z.alloc | apply a5z.drewN | apply a5z.drew | apply a5z.set_1 | refine a5z.far ?_ NB0_101.1 _) | exact HI0.1))) : gb105 ≠ g)); clear HI0; clear BK101; clear HK; clear HB; have HI0 := n0_; have BK101 := n1_; have HK := n2_; have HB := n3_; have BK105 := n4_; have GW105 := n5_; have GE105 := n6_; have NB101_105 := n7_; have NB105_101 := n8_; have NB0_105 := n9_; have NB105_0 := n10_; clear n0_ n1_ n2_ n3_ n4_ n5_ n6_ n7_ n8_ n9_ n10_; clear hb hbox hg; have hnb41 := NB105_101.1; have hnc41 := NB101_105.1; have hnb42 := NB105_0.1; have hnc42 := NB0_105.1; have hcz43_0 : w40.cell? ⟨gb105, 0, none⟩ = some (.int .i64 0) := (a8z BK105.1 0).trans rfl; have hcz43_1 : w40.cell? ⟨gb105, 1, none⟩ = some (.int .i64 0) := (a8z BK105.1 1).trans rfl; have hfz43_0 := a9z BK105.1 0; have hfz43_1 := a9z BK105.1 1) | ((with_reducible refine c2z (f := 89) rfl ?_); refine d1z (some 7) rfl rfl Try.func89 (by kernel_rfl) rfl #[.pointer (some ⟨g, 0, none⟩), .int .i64 16] rfl (by (try simp only [List.map_toArray, List.map_cons, List.map_nil]); first | done | rfl | (simp only [List.length_drop, List.length_take]; rfl)) ?_; (with_reducible refine (spec_l1Rd_pick.calls k g s0_0 t104 16 t106 t107 w0 _ ?side1 ?side2 A3.1).mono ?_); (case side1 => repeat (first | (with_reducible first | exact HI0.1 | apply a5z.alloc | apply a5z.drewN | apply a5z.drew | apply a5z.set_1 | refine a5z.far ?_ NB0_101.1 _ | refine a5z.far ?_ NB0_105.1 _) | exact HI0.1)); (case side2 => repeat (first | (with_reducible first | exact HB.1 | apply a3z | apply a0z | apply a2z | refine a4z ?_ (a5z.ge HI0.1) | refine a4z ?_ GE101.1 | refine a4z ?_ GE105.1) | exact HB.1)); rintro e w44 ⟨rfl, hi, hb, hk⟩; refine ⟨_, rfl, ?_⟩; have n0_ := a1z.mk (b8z.blk hk (g' := gb101) (o := .cells #[.int .i64 0, .int .i64 0] 24 (0, 0)) (by (with_reducible repeat (first | refine a6z ?_ _ | refine a7z ?_ | refine blk_alloc ?_ _)); refine f2z ?_ NB101_105.1 _; (with_reducible repeat (first | refine a6z ?_ _ | refine a7z ?_ | refine blk_alloc ?_ _)); refine f2z ?_ NB101_105.1 _; (with_reducible repeat (first | refine a6z ?_ _ | refine a7z ?_ | refine blk_alloc ?_ _)); exact BK101.1) NB101_0.1 (by simp)); have n1_ := a1z.mk (b8z.blk hk (g' := gb105) (o := .cells #[.int .i64 t102, .int .i64 t103] 24 (0, 0)) (by (with_reducible repeat (first | refine a6z ?_ _ | refine a7z ?_ | refine blk_alloc ?_ _)); refine d3z (cs := #[.int .i64 t102, .int .i64 0]) ?_ 1 _ rfl; (with_reducible repeat (first | refine a6z ?_ _ | refine a7z ?_ | refine blk_alloc ?_ _)); refine d3z (cs := #[.int .i64 0, .int .i64 0]) ?_ 0 _ rfl; (with_reducible repeat (first | refine a6z ?_ _ | refine a7z ?_ | refine blk_alloc ?_ _)); exact BK105.1) NB105_0.1 (by simp)); have n2_ := a1z.mk (b8z.trans (by repeat (first | (with_reducible first | exact HK.1 | apply b8z.set_ | apply c3z | apply c4z | apply keep_alloc | refine e2z ?_ GW101.1 _ | refine e2z ?_ GW105.1 _) | exact HK.1)) hk (.inl rfl)); have n3_ := a1z.mk (hb); have n4_ := a1z.mk (hi); clear BK101; clear BK105; clear HK; clear HB; clear HI0; have BK101 := n0_; have BK105 := n1_; have HK := n2_; have HB := n3_; have HI0 := n4_; clear n0_ n1_ n2_ n3_ n4_; (try clear hb); (try clear hb2); (try clear hk); (try clear hi); have hcz45_0 : w44.cell? ⟨gb105, 0, none⟩ = some (.int .i64 t102) := (a8z BK105.1 0).trans rfl; have hcz45_1 : w44.cell? ⟨gb105, 1, none⟩ = some (.int .i64 t103) := (a8z BK105.1 1).trans rfl; have hfz45_0 := a9z BK105.1 0; have hfz45_1 := a9z BK105.1 1; have hnb46 := NB101_0.1; have hnc46 := NB0_101.1; have hcz47_0 : w44.cell? ⟨gb101, 0, none⟩ = some (.int .i64 0) := (a8z BK101.1 0).trans rfl; have hcz47_1 : w44.cell? ⟨gb101, 1, none⟩ = some (.int .i64 0) := (a8z BK101.1 1).trans rfl; have hfz47_0 := a9z BK101.1 0; have hfz47_1 := a9z BK101.1 1))
   refine bodyPost_ret (results_cell_row rfl _ _ gb101 24 #[.int .i64 t102, .int .i64 t103] (0, 0) _ rfl (by (with_reducible repeat (first | refine a6z ?_ _ | refine a7z ?_ | refine blk_alloc ?_ _)); refine d3z (cs := #[.int .i64 t102, .int .i64 0]) ?_ 1 _ rfl; (with_reducible repeat (first | refine a6z ?_ _ | refine a7z ?_ | refine blk_alloc ?_ _)); refine d3z (cs := #[.int .i64 0, .int .i64 0]) ?_ 0 _ rfl; (with_reducible repeat (first | refine a6z ?_ _ | refine a7z ?_ | refine blk_alloc ?_ _)); exact BK101.1) Try.underlying24 rfl (by kernel_rfl)) rfl ?_
   exact ⟨by first | rfl | (simp [c1z, c0z] <;> rfl) | (simp [*, c1z, c0z] <;> rfl), by repeat (first | (with_reducible first | exact HI0.1 | apply a5z.alloc | apply a5z.drewN | apply a5z.drew | apply a5z.set_1 | refine a5z.far ?_ NB0_101.1 _ | refine a5z.far ?_ NB0_105.1 _) | exact HI0.1), by repeat (first | (with_reducible first | exact HB.1 | apply a3z | apply a0z | apply a2z | refine a4z ?_ (a5z.ge HI0.1) | refine a4z ?_ GE101.1 | refine a4z ?_ GE105.1) | exact HB.1), by repeat (first | (with_reducible first | exact HK.1 | apply b8z.set_ | apply c3z | apply c4z | apply keep_alloc | refine e2z ?_ GW101.1 _ | refine e2z ?_ GW105.1 _) | exact HK.1)⟩
end Go.Proofs.Ytbhgkpfbggkgdaa.Q

namespace Go.Proofs.Ytbhgkpfbggkgdaa.Q
open Go.RowKit Go.Proofs.YtbhgkpfbggkgdaaW.PrintWords Go.Proofs.YtbhgkpfbggkgdaaW.PrintLast Go.Proofs.YtbhgkpfbggkgdaaW.PrintMore
attribute [local go_sem] e1z d9z e4z e3z d5z d4z e0z d8z
set_option linter.unusedVariables false
set_option linter.unusedSimpArgs false
def spec_l1Open.f (l0 : List Int) : Option (List Int × Int) := if (l0.length : Int) > 2000 then (if 2000 ≤ (l0.length : Int) then (some (l0.take 2000, 0)) else (none)) else (some (l0, 0))
set_option maxHeartbeats 8000000 in
set_option maxRecDepth 100000 in
theorem spec_l1Open.calls (A0 : Option Addr) (c0 : Nat) (l0 : List Int) (r1 : List Int) (r2 : Int) (w0 w : World) (hB : Below w0.heap.size w0 w) (hr0 : Kd.C (Kd.int .u8) w0 A0 l0.length l0) (hc0 : l0.length ≤ c0) (h : spec_l1Open.f l0 = some (r1, r2)) :
  Calls Try.prog 69 #[.slice A0 l0.length c0] w fun e w' => ∃ g_ : Nat, e = .returned (.pointer (some ⟨g_, 0, none⟩)) ∧ a5z w0 w' g_ r1 r2 ∧ Below w0.heap.size w0 w' ∧ Below w.heap.size w w' := by
 have hu134 := Try.underlying134
 have HR0 := a1z.mk hr0
 have HC0 := a1z.mk hc0
 clear hr0 hc0
 have HBW := a1z.mk (Below.refl w.heap.size w)
 have HW0 := a1z.mk hB.size
 have HB := a1z.mk hB
 clear hB
 have H : (if (l0.length : Int) > 2000 then (if 2000 ≤ (l0.length : Int) then (some (l0.take 2000, 0)) else (none)) else (some (l0, 0))) = some (r1, r2) := h
 clear h
 by_cases c2 : (l0.length : Int) > 2000
 ·rw [if_pos c2] at H
  have c2b0 : decide (2000 < (l0.length : Int)) = true := decide_eq_true c2
  have c2b1 : decide (2000 < l0.length) = true := decide_eq_true (by omega)
  clear c2
  by_cases c3 : 2000 ≤ (l0.length : Int)
  ·rw [if_pos c3] at H
   have c3b0 := eq_true c3
   have c3b1 : decide (2000 ≤ (l0.length : Int)) = true := decide_eq_true c3
   clear c3
   simp only [Option.some.injEq, Prod.mk.injEq] at H
   obtain ⟨rfl, rfl⟩ := H
   obtain ⟨i04, hi04, _, hsz4, _⟩ := info_parts info5
   obtain ⟨hcut4, hA4, hC4⟩ := print_take_of (P := Try.prog) (Value.int .u8) 0 40 5 .i64 Try.underlying40 hi04 hsz4 A0 c0 l0 2000 (by omega) (of_decide_eq_true (by first | (with_reducible assumption) | assumption)) HC0.1
   have HR101 := a1z.mk (Kd.C_of_reads (h1 := fun _ => rfl) (hA4 _ (Kd.reads_of_C HR0.1)))
   have HC101 := a1z.mk hC4
   clear hA4 hC4 hi04 hsz4
   go_enter Try.func69, Try.ntmps69
   go_wp2_with (first | ((with_reducible refine c9z (N := 10) rfl ?_); refine d0z ?hg (N := 10) ?hd (cs := #[.slice A0 (l0.take 2000).length c0, .int .i64 0]) (t := 134) ?hr ?_; (case hd => rfl); (case hg => rfl); (case hr => first | (go_simp; done) | (go_simp; rfl)); intro gb102 hg w5 hbox hb; have n0_ := a1z.mk (b5z HBW.1 hb); have n1_ := a1z.mk (b5z (by repeat (first | (with_reducible first | exact HB.1 | apply a3z | apply a0z | apply a2z) | exact HB.1)) hb); have n2_ := a1z.mk (hbox); have n3_ := a1z.mk ((by rw [hg]; exact (b4z (by repeat (first | (with_reducible first | exact HBW.1 | apply a3z | apply a0z | apply a2z) | exact HBW.1))) : w.heap.size ≤ gb102)); have n4_ := a1z.mk ((Nat.le_trans HW0.1 (by rw [hg]; exact (b4z (by repeat (first | (with_reducible first | exact HBW.1 | apply a3z | apply a0z | apply a2z) | exact HBW.1))) : w.heap.size ≤ gb102) : w0.heap.size ≤ gb102)); clear HBW; clear HB; have HBW := n0_; have HB := n1_; have BK102 := n2_; have GW102 := n3_; have GE102 := n4_; clear n0_ n1_ n2_ n3_ n4_; clear hb hbox hg))
   go_ret
   exact ⟨_, rfl, (show a5z w0 _ gb102 (l0.take 2000) 0 from ⟨_, _, by (with_reducible repeat (first | refine a6z ?_ _ | refine a7z ?_ | refine blk_alloc ?_ _)); exact BK102.1, GE102.1, HR101.1⟩), by repeat (first | (with_reducible first | exact HB.1 | apply a3z | apply a0z | apply a2z | refine a4z ?_ GE102.1) | exact HB.1), by repeat (first | (with_reducible first | exact HBW.1 | apply a3z | apply a0z | apply a2z | refine a4z ?_ GW102.1) | exact HBW.1)⟩
  ·rw [if_neg c3] at H
   exact absurd H (by simp)
 ·rw [if_neg c2] at H
  have c2b0 : decide (2000 < (l0.length : Int)) = false := decide_eq_false c2
  have c2b1 : decide (2000 < l0.length) = false := decide_eq_false (by omega)
  clear c2
  simp only [Option.some.injEq, Prod.mk.injEq] at H
  obtain ⟨rfl, rfl⟩ := H
  go_enter Try.func69, Try.ntmps69
  go_wp2_with (first | ((with_reducible refine c9z (N := 10) rfl ?_); refine d0z ?hg (N := 10) ?hd (cs := #[.slice A0 l0.length c0, .int .i64 0]) (t := 134) ?hr ?_; (case hd => rfl); (case hg => rfl); (case hr => first | (go_simp; done) | (go_simp; rfl)); intro gb103 hg w6 hbox hb; have n0_ := a1z.mk (b5z HBW.1 hb); have n1_ := a1z.mk (b5z (by repeat (first | (with_reducible first | exact HB.1 | apply a3z | apply a0z | apply a2z) | exact HB.1)) hb); have n2_ := a1z.mk (hbox); have n3_ := a1z.mk ((by rw [hg]; exact (b4z (by repeat (first | (with_reducible first | exact HBW.1 | apply a3z | apply a0z | apply a2z) | exact HBW.1))) : w.heap.size ≤ gb103)); have n4_ := a1z.mk ((Nat.le_trans HW0.1 (by rw [hg]; exact (b4z (by repeat (first | (with_reducible first | exact HBW.1 | apply a3z | apply a0z | apply a2z) | exact HBW.1))) : w.heap.size ≤ gb103) : w0.heap.size ≤ gb103)); clear HBW; clear HB; have HBW := n0_; have HB := n1_; have BK103 := n2_; have GW103 := n3_; have GE103 := n4_; clear n0_ n1_ n2_ n3_ n4_; clear hb hbox hg))
  go_ret
  exact ⟨_, rfl, (show a5z w0 _ gb103 l0 0 from ⟨_, _, by (with_reducible repeat (first | refine a6z ?_ _ | refine a7z ?_ | refine blk_alloc ?_ _)); exact BK103.1, GE103.1, HR0.1⟩), by repeat (first | (with_reducible first | exact HB.1 | apply a3z | apply a0z | apply a2z | refine a4z ?_ GE103.1) | exact HB.1), by repeat (first | (with_reducible first | exact HBW.1 | apply a3z | apply a0z | apply a2z | refine a4z ?_ GW103.1) | exact HBW.1)⟩
end Go.Proofs.Ytbhgkpfbggkgdaa.Q

namespace Go.Proofs.Ytbhgkpfbggkgdaa.Q
open Go.RowKit Go.Proofs.YtbhgkpfbggkgdaaW.PrintWords Go.Proofs.YtbhgkpfbggkgdaaW.PrintLast Go.Proofs.YtbhgkpfbggkgdaaW.PrintMore
attribute [local go_sem] e1z d9z e4z e3z d5z d4z e0z d8z
set_option linter.unusedVariables false
set_option linter.unusedSimpArgs false
def spec_WaysPut.j0 : Nat → List (S82) → List (S82) → Bool → Int → Int → Int → Option ((List (S82)) × Bool)
 | 0, _, _, _, _, _, _ => none
 | k + 1, x0, x6, x24, x102000, x102001, x102002 => if x24 = true then (some (x6, false)) else ((spec_l3At.f k x0 x102000 x102001).bind fun bt111 => (if bt111.2 = true then (if 0 ≤ bt111.1 then (if bt111.1 < (x6.length : Int) then (some ((x6.set (bt111.1 : Int).toNat (⟨(⟨x102000, x102001⟩ : S24), x102002⟩ : S82)), true)) else (none)) else (none)) else (if (x0.length : Int) ≥ 40 then (some (x6, false)) else ((some (([] : List (S82)) : List (S82))).bind fun y114 => (if 0 ≤ bt111.1 then (if bt111.1 ≤ (x0.length : Int) then ((some (x0.take (bt111.1 : Int).toNat : List (S82))).bind fun y117 => (if y114.length + y117.length < 5864062014805 then ((some (y114 ++ y117 : List (S82))).bind fun y121 => ((some (([(⟨(⟨x102000, x102001⟩ : S24), x102002⟩ : S82)] : List (S82)) : List (S82))).bind fun y124 => (if y121.length + y124.length < 5864062014805 then ((some (y121 ++ y124 : List (S82))).bind fun y127 => ((some (x0.drop (bt111.1 : Int).toNat : List (S82))).bind fun y130 => (if y127.length + y130.length < 5864062014805 then (some ((y127 ++ y130), true)) else (none)))) else (none)))) else (none))) else (none)) else (none))))))
def spec_WaysPut.f (k : Nat) (l0 : List (S82)) (a1_0 : Int) (a1_1 : Int) (a1_2 : Int) : Option ((List (S82)) × Bool) := (spec_WaysOk.f k l0).bind fun t102 => (if t102 = true then ((spec_l3Copy.f l0).bind fun t106 => ((spec_BlockOk.f k a1_0 a1_1).bind fun t109 => (if t109 = true then ((spec_l1In.f a1_2 0 99).bind fun t110 => (spec_WaysPut.j0 k l0 t106 (!t110) a1_0 a1_1 a1_2)) else (spec_WaysPut.j0 k l0 t106 true a1_0 a1_1 a1_2)))) else (some ((([] : List (S82))), false)))
def spec_WaysPut.T12 : Bool × List (List Nat × List Nat) := (true, [([], []), ([], []), ([], []), ([1, 2], [1, 2]), ([0, 3], [0, 3]), ([], []), ([5], [5]), ([4, 6, 4], [4, 6]), ([], []), ([], []), ([8, 9], [8, 9]), ([7, 10, 7], [7, 10]), ([11, 11, 0, 1, 2, 3, 4, 5, 6, 7, 8, 9, 10, 11], [11]), ([12, 0, 1, 2, 3, 4, 5, 6, 7, 8, 9, 10, 11, 12], [])])
def spec_WaysPut.B12 : List Nat := [0, 0, 0, 6, 15, 0, 32, 127, 0, 0, 768, 2047, 4095, 8191]
theorem spec_WaysPut.tab12 : rtab .any (opsOf Try.f54 12) = spec_WaysPut.T12 := by kernel_rfl
theorem spec_WaysPut.bits12 : waitsOk spec_WaysPut.T12.2 spec_WaysPut.B12 = true := by kernel_rfl
set_option maxHeartbeats 8000000 in
set_option maxRecDepth 100000 in
theorem spec_WaysPut.calls (k : Nat) (A0 : Option Addr) (c0 : Nat) (l0 : List (S82)) (a1_0 : Int) (a1_1 : Int) (a1_2 : Int) (r1 : List (S82)) (r2 : Bool) (w : World) (hr0 : Kd.C k82 w A0 l0.length l0) (hc0 : l0.length ≤ c0) (h : spec_WaysPut.f k l0 a1_0 a1_1 a1_2 = some (r1, r2)) :
  Calls Try.prog 54 #[.slice A0 l0.length c0, .agg #[.int .i64 a1_0, .int .i64 a1_1, .int .i64 a1_2]] w fun e w' => ∃ v0_ : Value, e = .returned (.tuple #[v0_, .bool r2]) ∧ Kd.R k82 82 w' w.heap.size (fun _ => True) v0_ r1 ∧ Below w.heap.size w w' := by
 have hu82 := Try.underlying82
 have hu24 := Try.underlying24
 have HR0 := a1z.mk hr0
 have HC0 := a1z.mk hc0
 clear hr0 hc0
 have HB := a1z.mk (Below.refl w.heap.size w)
 have H : ((spec_WaysOk.f k l0).bind fun t102 => (if t102 = true then ((spec_l3Copy.f l0).bind fun t106 => ((spec_BlockOk.f k a1_0 a1_1).bind fun t109 => (if t109 = true then ((spec_l1In.f a1_2 0 99).bind fun t110 => (spec_WaysPut.j0 k l0 t106 (!t110) a1_0 a1_1 a1_2)) else (spec_WaysPut.j0 k l0 t106 true a1_0 a1_1 a1_2)))) else (some ((([] : List (S82))), false)))) = some (r1, r2) := h
 clear h
 replace H := Option.bind_eq_some_iff.mp H
 obtain ⟨t102, A30, H⟩ := H
 replace H : (if t102 = true then ((spec_l3Copy.f l0).bind fun t106 => ((spec_BlockOk.f k a1_0 a1_1).bind fun t109 => (if t109 = true then ((spec_l1In.f a1_2 0 99).bind fun t110 => (spec_WaysPut.j0 k l0 t106 (!t110) a1_0 a1_1 a1_2)) else (spec_WaysPut.j0 k l0 t106 true a1_0 a1_1 a1_2)))) else (some ((([] : List (S82))), false))) = some (r1, r2) := H
 have A3 := a1z.mk A30
 clear A30
 by_cases c4 : t102 = true
 ·subst c4
  have H1 : ((spec_l3Copy.f l0).bind fun t106 => ((spec_BlockOk.f k a1_0 a1_1).bind fun t109 => (if t109 = true then ((spec_l1In.f a1_2 0 99).bind fun t110 => (spec_WaysPut.j0 k l0 t106 (!t110) a1_0 a1_1 a1_2)) else (spec_WaysPut.j0 k l0 t106 true a1_0 a1_1 a1_2)))) = some (r1, r2) := by rw [if_pos rfl] at H; exact H
  clear H
  have H := H1
  clear H1
  replace H := Option.bind_eq_some_iff.mp H
  obtain ⟨t106, A50, H⟩ := H
  replace H : ((spec_BlockOk.f k a1_0 a1_1).bind fun t109 => (if t109 = true then ((spec_l1In.f a1_2 0 99).bind fun t110 => (spec_WaysPut.j0 k l0 t106 (!t110) a1_0 a1_1 a1_2)) else (spec_WaysPut.j0 k l0 t106 true a1_0 a1_1 a1_2))) = some (r1, r2) := H
  have A5 := a1z.mk A50
  clear A50
  have HC6 := a1z.mk H
  clear H
  go_enter Try.func54, Try.ntmps54
  go_upto_region 4 with (first | ((with_reducible refine c9z (N := 3) rfl ?_); refine d0z ?hg (N := 3) ?hd (cs := #[.int .i64 a1_0, .int .i64 a1_1, .int .i64 a1_2]) (t := 82) ?hr ?_; (case hd => rfl); (case hg => rfl); (case hr => first | (go_simp; done) | (go_simp; rfl)); intro gb101 hg w7 hbox hb; have n0_ := a1z.mk (b5z (by repeat (first | (with_reducible first | exact HB.1 | apply a3z | apply a0z | apply a2z) | exact HB.1)) hb); have n1_ := a1z.mk (hbox); have n2_ := a1z.mk ((by rw [hg]; exact (b4z (by repeat (first | (with_reducible first | exact HB.1 | apply a3z | apply a0z | apply a2z) | exact HB.1))) : w.heap.size ≤ gb101)); have n3_ := a1z.mk ((by rw [hg]; exact (b4z (by repeat (first | (with_reducible first | exact HB.1 | apply a3z | apply a0z | apply a2z) | exact HB.1))) : w.heap.size ≤ gb101)); clear HB; have HB := n0_; have BK101 := n1_; have GW101 := n2_; have GE101 := n3_; clear n0_ n1_ n2_ n3_; clear hb hbox hg) | ((with_reducible refine c2z (f := 41) rfl ?_); refine d1z (some 10) rfl rfl Try.func41 (by kernel_rfl) rfl #[.slice A0 l0.length c0] rfl (by (try simp only [List.map_toArray, List.map_cons, List.map_nil]); first | done | rfl | (simp only [List.length_drop, List.length_take]; rfl)) ?_; (with_reducible refine (spec_WaysOk.calls k _ _ l0 true _ ?side1 ?side2 A3.1).mono ?_); (case side1 => repeat (first | exact (Kd.f0z HR0.1 HB.1) | (with_reducible refine Kd.C_alloc ?_ _) | (with_reducible refine Kd.C_drewN ?_ _) | (with_reducible refine Kd.C_drew ?_))); (case side2 => exact HC0.1); rintro e w8 ⟨rfl, hb⟩; refine ⟨_, rfl, ?_⟩; have n0_ := a1z.mk (b7z (g := gb101) (o := .cells #[.int .i64 a1_0, .int .i64 a1_1, .int .i64 a1_2] 82 (0, 0)) (by (with_reducible repeat (first | refine a6z ?_ _ | refine a7z ?_ | refine blk_alloc ?_ _)); exact BK101.1) hb); have n1_ := a1z.mk (b5z (by repeat (first | (with_reducible first | exact HB.1 | apply a3z | apply a0z | apply a2z | refine a4z ?_ GE101.1) | exact HB.1)) hb); clear BK101; clear HB; have BK101 := n0_; have HB := n1_; clear n0_ n1_; (try clear hb); (try clear hb2); (try clear hk); (try clear hi)) | ((with_reducible refine c2z (f := 93) rfl ?_); refine d1z (some 14) rfl rfl Try.func93 (by kernel_rfl) rfl #[.slice A0 l0.length c0] rfl (by (try simp only [List.map_toArray, List.map_cons, List.map_nil]); first | done | rfl | (simp only [List.length_drop, List.length_take]; rfl)) ?_; (with_reducible refine (spec_l3Copy.calls _ _ l0 t106 _ ?side1 ?side2 A5.1).mono ?_); (case side1 => repeat (first | exact (Kd.f0z HR0.1 HB.1) | (with_reducible refine Kd.C_alloc ?_ _) | (with_reducible refine Kd.C_drewN ?_ _) | (with_reducible refine Kd.C_drew ?_))); (case side2 => exact HC0.1); rintro e w9 ⟨v107, rfl, ho0, hb⟩; refine ⟨_, rfl, ?_⟩; have n0_ := a1z.mk (Kd.c7z (Kd.d7z ho0 (g := gb101) (o := .cells #[.int .i64 a1_0, .int .i64 a1_1, .int .i64 a1_2] 82 (0, 0)) (by (with_reducible repeat (first | refine a6z ?_ _ | refine a7z ?_ | refine blk_alloc ?_ _)); exact BK101.1)) (b4z (by repeat (first | (with_reducible first | exact HB.1 | apply a3z | apply a0z | apply a2z | refine a4z ?_ GE101.1) | exact HB.1)))); have n1_ := a1z.mk (b7z (g := gb101) (o := .cells #[.int .i64 a1_0, .int .i64 a1_1, .int .i64 a1_2] 82 (0, 0)) (by (with_reducible repeat (first | refine a6z ?_ _ | refine a7z ?_ | refine blk_alloc ?_ _)); exact BK101.1) hb); have n2_ := a1z.mk (b5z (by repeat (first | (with_reducible first | exact HB.1 | apply a3z | apply a0z | apply a2z | refine a4z ?_ GE101.1) | exact HB.1)) hb); clear BK101; clear HB; have HO108 := n0_; have BK101 := n1_; have HB := n2_; clear n0_ n1_ n2_; (try clear hb); (try clear hb2); (try clear hk); (try clear hi); (try clear ho0)))
  (try simp only [Act.put, sA_, sZ_, sS_])
  go_cut [24] (fun v24 wc => ∃ (kq : Nat) (x24_5 : Bool), v24 = .bool x24_5 ∧ a1z (spec_WaysPut.j0 kq l0 t106 x24_5 a1_0 a1_1 a1_2 = some (r1, r2)) ∧ a1z (kq ≤ k) ∧ a1z (Kd.R k82 82 wc w.heap.size (fun k_ => k_ ≠ gb101) v107 t106) ∧ a1z (wc.heap[gb101]? = some (.cells #[.int .i64 a1_0, .int .i64 a1_1, .int .i64 a1_2] 82 (0, 0))) ∧ a1z (Below w.heap.size w wc))
  case first =>
   have H := HC6.1
   clear HC6
   replace H := Option.bind_eq_some_iff.mp H
   obtain ⟨t109, A100, H⟩ := H
   replace H : (if t109 = true then ((spec_l1In.f a1_2 0 99).bind fun t110 => (spec_WaysPut.j0 k l0 t106 (!t110) a1_0 a1_1 a1_2)) else (spec_WaysPut.j0 k l0 t106 true a1_0 a1_1 a1_2)) = some (r1, r2) := H
   have A10 := a1z.mk A100
   clear A100
   by_cases c11 : t109 = true
   ·subst c11
    have H1 : ((spec_l1In.f a1_2 0 99).bind fun t110 => (spec_WaysPut.j0 k l0 t106 (!t110) a1_0 a1_1 a1_2)) = some (r1, r2) := by rw [if_pos rfl] at H; exact H
    clear H
    have H := H1
    clear H1
    replace H := Option.bind_eq_some_iff.mp H
    obtain ⟨t110, A120, H⟩ := H
    replace H : (spec_WaysPut.j0 k l0 t106 (!t110) a1_0 a1_1 a1_2) = some (r1, r2) := H
    have A12 := a1z.mk A120
    clear A120
    have H' := a1z.mk H
    clear H
    have hcz13_0 : w9.cell? ⟨gb101, 0, none⟩ = some (.int .i64 a1_0) := (a8z BK101.1 0).trans rfl
    have hcz13_1 : w9.cell? ⟨gb101, 1, none⟩ = some (.int .i64 a1_1) := (a8z BK101.1 1).trans rfl
    have hcz13_2 : w9.cell? ⟨gb101, 2, none⟩ = some (.int .i64 a1_2) := (a8z BK101.1 2).trans rfl
    have hfz13_0 := a9z BK101.1 0
    have hfz13_1 := a9z BK101.1 1
    have hfz13_2 := a9z BK101.1 2
    go_wp2_with (first | ((with_reducible refine c2z (f := 27) rfl ?_); refine d1z (some 17) rfl rfl Try.func27 (by kernel_rfl) rfl #[.agg #[.int .i64 a1_0, .int .i64 a1_1]] rfl (by (try simp only [List.map_toArray, List.map_cons, List.map_nil]); first | done | rfl | (simp only [List.length_drop, List.length_take]; rfl)) ?_; (with_reducible refine (spec_BlockOk.calls k a1_0 a1_1 true _ A10.1).mono ?_); rintro e w14 ⟨rfl, hb⟩; refine ⟨_, rfl, ?_⟩; have n0_ := a1z.mk (Kd.e9z (by (with_reducible repeat (first | apply Kd.R_alloc | apply Kd.b0z | apply Kd.b1z)); exact HO108.1) hb); have n1_ := a1z.mk (b7z (g := gb101) (o := .cells #[.int .i64 a1_0, .int .i64 a1_1, .int .i64 a1_2] 82 (0, 0)) (by (with_reducible repeat (first | refine a6z ?_ _ | refine a7z ?_ | refine blk_alloc ?_ _)); exact BK101.1) hb); have n2_ := a1z.mk (b5z (by repeat (first | (with_reducible first | exact HB.1 | apply a3z | apply a0z | apply a2z | refine a4z ?_ GE101.1) | exact HB.1)) hb); clear HO108; clear BK101; clear HB; have HO108 := n0_; have BK101 := n1_; have HB := n2_; clear n0_ n1_ n2_; (try clear hb); (try clear hb2); (try clear hk); (try clear hi); have hcz15_0 : w14.cell? ⟨gb101, 0, none⟩ = some (.int .i64 a1_0) := (a8z BK101.1 0).trans rfl; have hcz15_1 : w14.cell? ⟨gb101, 1, none⟩ = some (.int .i64 a1_1) := (a8z BK101.1 1).trans rfl; have hcz15_2 : w14.cell? ⟨gb101, 2, none⟩ = some (.int .i64 a1_2) := (a8z BK101.1 2).trans rfl; have hfz15_0 := a9z BK101.1 0; have hfz15_1 := a9z BK101.1 1; have hfz15_2 := a9z BK101.1 2) | (go_at_call 72; (with_reducible refine (spec_l1In.calls a1_2 0 99 t110 _ A12.1).mono ?_); rintro e w' ⟨rfl, ⟨nd, rfl⟩⟩))
    go_meet
    case rel => exact ⟨_, (!t110), (by first | rfl | (simp; done) | (simp [*]; done)), H', ⟨by first | omega | exact Nat.le_refl _⟩, ⟨by (with_reducible repeat (first | apply Kd.R_alloc | apply Kd.b0z | apply Kd.b1z)); exact Kd.c8z HO108.1 (fun _ hk => hk.2)⟩, ⟨by (with_reducible repeat (first | refine a6z ?_ _ | refine a7z ?_ | refine blk_alloc ?_ _)); exact BK101.1⟩, ⟨by repeat (first | (with_reducible first | exact HB.1 | apply a3z | apply a0z | apply a2z | refine a4z ?_ GE101.1) | exact HB.1)⟩⟩
   ·replace c11 := Bool.eq_false_iff.mpr c11
    subst c11
    have H1 : (spec_WaysPut.j0 k l0 t106 true a1_0 a1_1 a1_2) = some (r1, r2) := by rw [if_neg (show ¬ (false = true) by decide)] at H; exact H
    clear H
    have H := H1
    clear H1
    have H' := a1z.mk H
    clear H
    have hcz16_0 : w9.cell? ⟨gb101, 0, none⟩ = some (.int .i64 a1_0) := (a8z BK101.1 0).trans rfl
    have hcz16_1 : w9.cell? ⟨gb101, 1, none⟩ = some (.int .i64 a1_1) := (a8z BK101.1 1).trans rfl
    have hcz16_2 : w9.cell? ⟨gb101, 2, none⟩ = some (.int .i64 a1_2) := (a8z BK101.1 2).trans rfl
    have hfz16_0 := a9z BK101.1 0
    have hfz16_1 := a9z BK101.1 1
    have hfz16_2 := a9z BK101.1 2
    go_wp2_with (first | ((with_reducible refine c2z (f := 27) rfl ?_); refine d1z (some 17) rfl rfl Try.func27 (by kernel_rfl) rfl #[.agg #[.int .i64 a1_0, .int .i64 a1_1]] rfl (by (try simp only [List.map_toArray, List.map_cons, List.map_nil]); first | done | rfl | (simp only [List.length_drop, List.length_take]; rfl)) ?_; (with_reducible refine (spec_BlockOk.calls k a1_0 a1_1 false _ A10.1).mono ?_); rintro e w17 ⟨rfl, hb⟩; refine ⟨_, rfl, ?_⟩; have n0_ := a1z.mk (Kd.e9z (by (with_reducible repeat (first | apply Kd.R_alloc | apply Kd.b0z | apply Kd.b1z)); exact HO108.1) hb); have n1_ := a1z.mk (b7z (g := gb101) (o := .cells #[.int .i64 a1_0, .int .i64 a1_1, .int .i64 a1_2] 82 (0, 0)) (by (with_reducible repeat (first | refine a6z ?_ _ | refine a7z ?_ | refine blk_alloc ?_ _)); exact BK101.1) hb); have n2_ := a1z.mk (b5z (by repeat (first | (with_reducible first | exact HB.1 | apply a3z | apply a0z | apply a2z | refine a4z ?_ GE101.1) | exact HB.1)) hb); clear HO108; clear BK101; clear HB; have HO108 := n0_; have BK101 := n1_; have HB := n2_; clear n0_ n1_ n2_; (try clear hb); (try clear hb2); (try clear hk); (try clear hi)))
    go_meet
    case rel => exact ⟨_, (true), (by first | rfl | (simp; done) | (simp [*]; done)), H', ⟨by first | omega | exact Nat.le_refl _⟩, ⟨by (with_reducible repeat (first | apply Kd.R_alloc | apply Kd.b0z | apply Kd.b1z)); exact Kd.c8z HO108.1 (fun _ hk => hk.2)⟩, ⟨by (with_reducible repeat (first | refine a6z ?_ _ | refine a7z ?_ | refine blk_alloc ?_ _)); exact BK101.1⟩, ⟨by repeat (first | (with_reducible first | exact HB.1 | apply a3z | apply a0z | apply a2z | refine a4z ?_ GE101.1) | exact HB.1)⟩⟩
  case rest =>
   clear HC6
   try clear c1
   try clear c2
   try clear p2
   try clear c4
   try clear c5
   try clear c9
   try clear c11
   try clear hcz13_0
   try clear hcz13_1
   try clear hcz13_2
   try clear hcz15_0
   try clear hcz15_1
   try clear hcz15_2
   try clear hcz16_0
   try clear hcz16_1
   try clear hcz16_2
   try clear hfz13_0
   try clear hfz13_1
   try clear hfz13_2
   try clear hfz15_0
   try clear hfz15_1
   try clear hfz15_2
   try clear hfz16_0
   try clear hfz16_1
   try clear hfz16_2
   obtain ⟨kq, x24_5, rfl, HA, HJ5, HO_6, BK101, HB⟩ := hcut
   cases kq with
   | zero => exact absurd HA.1 (by simp [spec_WaysPut.j0])
   | succ kj5 =>
    have H := HA.1
    clear HA
    simp only [spec_WaysPut.j0] at H
    by_cases c18 : x24_5 = true
    ·subst c18
     have H1 : (some (t106, false)) = some (r1, r2) := by rw [if_pos rfl] at H; exact H
     clear H
     have H := H1
     clear H1
     simp only [Option.some.injEq, Prod.mk.injEq] at H
     obtain ⟨rfl, rfl⟩ := H
     go_wp2
     go_ret2
     exact ⟨_, by first | rfl | (simp [c1z, c0z] <;> rfl) | (simp [*, c1z, c0z] <;> rfl), by (with_reducible repeat (first | apply Kd.R_alloc | apply Kd.b0z | apply Kd.b1z)); exact Kd.c8z HO_6.1 (fun _ hk => trivial), by repeat (first | (with_reducible first | exact HB.1 | apply a3z | apply a0z | apply a2z | refine a4z ?_ GE101.1) | exact HB.1)⟩
    ·replace c18 := Bool.eq_false_iff.mpr c18
     subst c18
     have H1 : ((spec_l3At.f kj5 l0 a1_0 a1_1).bind fun bt111 => (if bt111.2 = true then (if 0 ≤ bt111.1 then (if bt111.1 < (t106.length : Int) then (some ((t106.set (bt111.1 : Int).toNat (⟨(⟨a1_0, a1_1⟩ : S24), a1_2⟩ : S82)), true)) else (none)) else (none)) else (if (l0.length : Int) ≥ 40 then (some (t106, false)) else ((some (([] : List (S82)) : List (S82))).bind fun y114 => (if 0 ≤ bt111.1 then (if bt111.1 ≤ (l0.length : Int) then ((some (l0.take (bt111.1 : Int).toNat : List (S82))).bind fun y117 => (if y114.length + y117.length < 5864062014805 then ((some (y114 ++ y117 : List (S82))).bind fun y121 => ((some (([(⟨(⟨a1_0, a1_1⟩ : S24), a1_2⟩ : S82)] : List (S82)) : List (S82))).bind fun y124 => (if y121.length + y124.length < 5864062014805 then ((some (y121 ++ y124 : List (S82))).bind fun y127 => ((some (l0.drop (bt111.1 : Int).toNat : List (S82))).bind fun y130 => (if y127.length + y130.length < 5864062014805 then (some ((y127 ++ y130), true)) else (none)))) else (none)))) else (none))) else (none)) else (none)))))) = some (r1, r2) := by rw [if_neg (show ¬ (false = true) by decide)] at H; exact H
     clear H
     have H := H1
     clear H1
     replace H := Option.bind_eq_some_iff.mp H
     obtain ⟨⟨t111, t112⟩, A190, H⟩ := H
     replace H : (if t112 = true then (if 0 ≤ t111 then (if t111 < (t106.length : Int) then (some ((t106.set (t111 : Int).toNat (⟨(⟨a1_0, a1_1⟩ : S24), a1_2⟩ : S82)), true)) else (none)) else (none)) else (if (l0.length : Int) ≥ 40 then (some (t106, false)) else ((some (([] : List (S82)) : List (S82))).bind fun y114 => (if 0 ≤ t111 then (if t111 ≤ (l0.length : Int) then ((some (l0.take (t111 : Int).toNat : List (S82))).bind fun y117 => (if y114.length + y117.length < 5864062014805 then ((some (y114 ++ y117 : List (S82))).bind fun y121 => ((some (([(⟨(⟨a1_0, a1_1⟩ : S24), a1_2⟩ : S82)] : List (S82)) : List (S82))).bind fun y124 => (if y121.length + y124.length < 5864062014805 then ((some (y121 ++ y124 : List (S82))).bind fun y127 => ((some (l0.drop (t111 : Int).toNat : List (S82))).bind fun y130 => (if y127.length + y130.length < 5864062014805 then (some ((y127 ++ y130), true)) else (none)))) else (none)))) else (none))) else (none)) else (none))))) = some (r1, r2) := H
     have A19 := a1z.mk A190
     clear A190
     by_cases c20 : t112 = true
     ·subst c20
      have H1 : (if 0 ≤ t111 then (if t111 < (t106.length : Int) then (some ((t106.set (t111 : Int).toNat (⟨(⟨a1_0, a1_1⟩ : S24), a1_2⟩ : S82)), true)) else (none)) else (none)) = some (r1, r2) := by rw [if_pos rfl] at H; exact H
      clear H
      have H := H1
      clear H1
      by_cases c21 : 0 ≤ t111
      ·rw [if_pos c21] at H
       have c21b0 : decide (0 ≤ t111) = true := decide_eq_true c21
       clear c21
       by_cases c22 : t111 < (t106.length : Int)
       ·rw [if_pos c22] at H
        have c22b0 : decide (t111 < (t106.length : Int)) = true := decide_eq_true c22
        clear c22
        obtain ⟨y113, hy113⟩ : ∃ y_ : List (S82), y_ = (t106.set (t111 : Int).toNat (⟨(⟨a1_0, a1_1⟩ : S24), a1_2⟩ : S82)) := ⟨_, rfl⟩
        replace H : (some (y113, true)) = some (r1, r2) := by first | (rw [hy113]; with_reducible exact H) | (have H2_ := (Option.bind_some _ _).symm.trans H; rw [hy113]; with_reducible exact H2_) | (have H2_ := (Option.bind_some _ _).symm.trans H; with_reducible exact H2_) | with_reducible exact H | (rw [hy113]; exact H) | exact H
        have Ny113 := a1z.mk hy113
        clear hy113
        simp only [Option.some.injEq, Prod.mk.injEq] at H
        obtain ⟨rfl, rfl⟩ := H
        have hcz24_0 : wc.cell? ⟨gb101, 0, none⟩ = some (.int .i64 a1_0) := (a8z BK101.1 0).trans rfl
        have hcz24_1 : wc.cell? ⟨gb101, 1, none⟩ = some (.int .i64 a1_1) := (a8z BK101.1 1).trans rfl
        have hcz24_2 : wc.cell? ⟨gb101, 2, none⟩ = some (.int .i64 a1_2) := (a8z BK101.1 2).trans rfl
        have hfz24_0 := a9z BK101.1 0
        have hfz24_1 := a9z BK101.1 1
        have hfz24_2 := a9z BK101.1 2
        go_wp2_with (first | ((with_reducible refine c2z (f := 92) rfl ?_); refine d1z (some 30) rfl rfl Try.func92 (by kernel_rfl) rfl #[.slice A0 l0.length c0, .agg #[.int .i64 a1_0, .int .i64 a1_1]] rfl (by (try simp only [List.map_toArray, List.map_cons, List.map_nil]); first | done | rfl | (simp only [List.length_drop, List.length_take]; rfl)) ?_; (with_reducible refine (spec_l3At.calls kj5 _ _ l0 a1_0 a1_1 t111 true _ ?side1 ?side2 A19.1).mono ?_); (case side1 => repeat (first | exact (Kd.f0z HR0.1 HB.1) | (with_reducible refine Kd.C_alloc ?_ _) | (with_reducible refine Kd.C_drewN ?_ _) | (with_reducible refine Kd.C_drew ?_))); (case side2 => exact HC0.1); rintro e w25 ⟨rfl, hb⟩; refine ⟨_, rfl, ?_⟩; have n0_ := a1z.mk (Kd.e9z (by (with_reducible repeat (first | apply Kd.R_alloc | apply Kd.b0z | apply Kd.b1z)); exact HO_6.1) hb); have n1_ := a1z.mk (b7z (g := gb101) (o := .cells #[.int .i64 a1_0, .int .i64 a1_1, .int .i64 a1_2] 82 (0, 0)) (by (with_reducible repeat (first | refine a6z ?_ _ | refine a7z ?_ | refine blk_alloc ?_ _)); exact BK101.1) hb); have n2_ := a1z.mk (b5z (by repeat (first | (with_reducible first | exact HB.1 | apply a3z | apply a0z | apply a2z | refine a4z ?_ GE101.1) | exact HB.1)) hb); clear HO_6; clear BK101; clear HB; have HO_6 := n0_; have BK101 := n1_; have HB := n2_; clear n0_ n1_ n2_; (try clear hb); (try clear hb2); (try clear hk); (try clear hi); have hcz26_0 : w25.cell? ⟨gb101, 0, none⟩ = some (.int .i64 a1_0) := (a8z BK101.1 0).trans rfl; have hcz26_1 : w25.cell? ⟨gb101, 1, none⟩ = some (.int .i64 a1_1) := (a8z BK101.1 1).trans rfl; have hcz26_2 : w25.cell? ⟨gb101, 2, none⟩ = some (.int .i64 a1_2) := (a8z BK101.1 2).trans rfl; have hfz26_0 := a9z BK101.1 0; have hfz26_1 := a9z BK101.1 1; have hfz26_2 := a9z BK101.1 2; have p23 : 0 ≤ (t111 : Int) := of_decide_eq_true (by first | (with_reducible assumption) | assumption); have q23 : (t111 : Int) < ((t106.length : Int) : Int) := of_decide_eq_true (by first | (with_reducible assumption) | assumption); obtain ⟨go23, co23, eo23, gb23, gl23, cl23, HG23⟩ := Kd.R_form HO_6.1 (by omega); (first | cases eo23 | (injection eo23 with ea_ en_ ec_; (first | subst ea_ | (injection ea_ with ea_; subst ea_)); subst ec_; clear en_)); have GB23 := a1z.mk gb23; have GG23 := a1z.mk HG23; clear gb23 gl23 HG23; obtain ⟨ce23, hcl23, hM23, hcc23, hfr23⟩ := Kd.R_elem HO_6.1 z82 (t111 : Int) p23 q23; obtain rfl := g9z hM23; have hx23_0 : w25.cell? ⟨go23, (t111 : Int).toNat * 3, none⟩ = some (.int .i64 ((b2z t106 t111).f0.f0)) := hcc23 0 _ rfl; have hx23_1 : w25.cell? ⟨go23, (t111 : Int).toNat * 3 + 1, none⟩ = some (.int .i64 ((b2z t106 t111).f0.f1)) := hcc23 1 _ rfl; have hx23_2 : w25.cell? ⟨go23, (t111 : Int).toNat * 3 + 2, none⟩ = some (.int .i64 ((b2z t106 t111).f1)) := hcc23 2 _ rfl; have hf23_0 : w25.frozen? ⟨go23, (t111 : Int).toNat * 3, none⟩ = false := hfr23 0; have hf23_1 : w25.frozen? ⟨go23, (t111 : Int).toNat * 3 + 1, none⟩ = false := hfr23 1; have hf23_2 : w25.frozen? ⟨go23, (t111 : Int).toNat * 3 + 2, none⟩ = false := hfr23 2; clear hcl23 hcc23 hfr23 hM23; replace p23 := eq_true p23; replace q23 := eq_true q23; have HX27 := a1z.mk (show Kd.R k82 82 w25 w.heap.size (fun k_ => k_ ≠ gb101) (.slice (some ⟨go23, 0, none⟩) t106.length co23) t106 from (by (with_reducible repeat (first | apply Kd.R_alloc | apply Kd.b0z | apply Kd.b1z)); exact HO_6.1)); obtain ⟨ce27, hcl27, hM27, hcc27, hfr27⟩ := Kd.R_elem HX27.1 z82 (t111 : Int) (of_decide_eq_true (by first | (with_reducible assumption) | assumption)) (by have h_ : (t111 : Int) < ((t106.length : Int) : Int) := of_decide_eq_true (by first | (with_reducible assumption) | assumption); first | exact h_ | (have e_ := (Kd.b6z HO_6.1).1; omega) | simpa using h_); obtain rfl := g9z hM27; have HP27 := Kd.R_seg HX27.1 (t111 : Int) (of_decide_eq_true (by first | (with_reducible assumption) | assumption)) (by have h_ : (t111 : Int) < ((t106.length : Int) : Int) := of_decide_eq_true (by first | (with_reducible assumption) | assumption); first | exact h_ | (have e_ := (Kd.b6z HO_6.1).1; omega) | simpa using h_) (seg := [.int .i64 a1_0, .int .i64 a1_1, .int .i64 a1_2]) (j := 0) hcl27 hcc27 (show 3 ≤ 3 from by decide) (x' := (⟨(⟨a1_0, a1_1⟩ : S24), a1_2⟩ : S82)) (k82_mkM _ _ _ (⟨(⟨a1_0, a1_1⟩ : S24), a1_2⟩ : S82) ) (fun _ hk => hk); have hx27_0 := hcc27 0 _ rfl; (try simp only [show (k82).sz = 3 from rfl, Nat.mul_one, Nat.add_zero] at hx27_0); have hf27_0 := hfr27 0; (try simp only [show (k82).sz = 3 from rfl, Nat.mul_one, Nat.add_zero] at hf27_0); have hx27_1 := hcc27 1 _ rfl; (try simp only [show (k82).sz = 3 from rfl, Nat.mul_one, Nat.add_zero] at hx27_1); have hf27_1 := hfr27 1; (try simp only [show (k82).sz = 3 from rfl, Nat.mul_one, Nat.add_zero] at hf27_1); have hx27_2 := hcc27 2 _ rfl; (try simp only [show (k82).sz = 3 from rfl, Nat.mul_one, Nat.add_zero] at hx27_2); have hf27_2 := hfr27 2; (try simp only [show (k82).sz = 3 from rfl, Nat.mul_one, Nat.add_zero] at hf27_2); clear hcl27 hcc27 hfr27 hM27) | ((with_reducible refine gate_store (t := 82) (p := 37) rfl ?_); refine store_event (t := 82) (p := 37) (v := ?vo_w28) (w1 := (((w25.setCell ⟨go23, (t111 : Int).toNat * 3, none⟩ (.int .i64 a1_0)).setCell ⟨go23, (t111 : Int).toNat * 3 + 1, none⟩ (.int .i64 a1_1)).setCell ⟨go23, (t111 : Int).toNat * 3 + 2, none⟩ (.int .i64 a1_2))) ?hg ?ho ?hn ?hr ?_; (case ho => rfl); (case hg => rfl); (case hn => rfl); (case hr => first | (go_simp; done) | (go_simp; rfl)); intro w28 hw; have hg : w25.grownBy w28 (some go23) := (by rw [hw]; exact HP27.2); have hp_ : Kd.R k82 82 w28 w.heap.size (fun k_ => k_ ≠ gb101) (.slice (some ⟨go23, 0, none⟩) t106.length co23) y113 := (by rw [hw, Ny113.1]; exact HP27.1); clear HP27; have n0_ := a1z.mk (hp_); have n1_ := a1z.mk (g6z (g := gb101) (o := .cells #[.int .i64 a1_0, .int .i64 a1_1, .int .i64 a1_2] 82 (0, 0)) (by (with_reducible repeat (first | refine a6z ?_ _ | refine a7z ?_ | refine blk_alloc ?_ _)); exact BK101.1) hg (Kd.R_away HO_6.1 (fun _ hk => hk))); have n2_ := a1z.mk ((by rw [hw]; exact a4z (a4z (a4z (HB.1) GB23.1) GB23.1) GB23.1 : Below w.heap.size w w28)); clear HO_6; clear BK101; clear HB; have HO_6 := n0_; have BK101 := n1_; have HB := n2_; clear n0_ n1_ n2_; clear hg hw hp_))
        go_ret2
        exact ⟨_, by first | rfl | (simp [c1z, c0z] <;> rfl) | (simp [*, c1z, c0z] <;> rfl), by (with_reducible repeat (first | apply Kd.R_alloc | apply Kd.b0z | apply Kd.b1z)); exact Kd.c8z HO_6.1 (fun _ hk => trivial), by repeat (first | (with_reducible first | exact HB.1 | apply a3z | apply a0z | apply a2z | refine a4z ?_ GE101.1) | exact HB.1)⟩
       ·rw [if_neg c22] at H
        exact absurd H (by simp)
      ·rw [if_neg c21] at H
       exact absurd H (by simp)
     ·replace c20 := Bool.eq_false_iff.mpr c20
      subst c20
      have H1 : (if (l0.length : Int) ≥ 40 then (some (t106, false)) else ((some (([] : List (S82)) : List (S82))).bind fun y114 => (if 0 ≤ t111 then (if t111 ≤ (l0.length : Int) then ((some (l0.take (t111 : Int).toNat : List (S82))).bind fun y117 => (if y114.length + y117.length < 5864062014805 then ((some (y114 ++ y117 : List (S82))).bind fun y121 => ((some (([(⟨(⟨a1_0, a1_1⟩ : S24), a1_2⟩ : S82)] : List (S82)) : List (S82))).bind fun y124 => (if y121.length + y124.length < 5864062014805 then ((some (y121 ++ y124 : List (S82))).bind fun y127 => ((some (l0.drop (t111 : Int).toNat : List (S82))).bind fun y130 => (if y127.length + y130.length < 5864062014805 then (some ((y127 ++ y130), true)) else (none)))) else (none)))) else (none))) else (none)) else (none)))) = some (r1, r2) := by rw [if_neg (show ¬ (false = true) by decide)] at H; exact H
      clear H
      have H := H1
      clear H1
      by_cases c29 : (l0.length : Int) ≥ 40
      ·rw [if_pos c29] at H
       have c29b0 : decide (40 ≤ (l0.length : Int)) = true := decide_eq_true c29
       have c29b1 : decide (40 ≤ l0.length) = true := decide_eq_true (by omega)
       clear c29
       simp only [Option.some.injEq, Prod.mk.injEq] at H
       obtain ⟨rfl, rfl⟩ := H
       have hcz30_0 : wc.cell? ⟨gb101, 0, none⟩ = some (.int .i64 a1_0) := (a8z BK101.1 0).trans rfl
       have hcz30_1 : wc.cell? ⟨gb101, 1, none⟩ = some (.int .i64 a1_1) := (a8z BK101.1 1).trans rfl
       have hcz30_2 : wc.cell? ⟨gb101, 2, none⟩ = some (.int .i64 a1_2) := (a8z BK101.1 2).trans rfl
       have hfz30_0 := a9z BK101.1 0
       have hfz30_1 := a9z BK101.1 1
       have hfz30_2 := a9z BK101.1 2
       go_wp2_with (first | ((with_reducible refine c2z (f := 92) rfl ?_); refine d1z (some 30) rfl rfl Try.func92 (by kernel_rfl) rfl #[.slice A0 l0.length c0, .agg #[.int .i64 a1_0, .int .i64 a1_1]] rfl (by (try simp only [List.map_toArray, List.map_cons, List.map_nil]); first | done | rfl | (simp only [List.length_drop, List.length_take]; rfl)) ?_; (with_reducible refine (spec_l3At.calls kj5 _ _ l0 a1_0 a1_1 t111 false _ ?side1 ?side2 A19.1).mono ?_); (case side1 => repeat (first | exact (Kd.f0z HR0.1 HB.1) | (with_reducible refine Kd.C_alloc ?_ _) | (with_reducible refine Kd.C_drewN ?_ _) | (with_reducible refine Kd.C_drew ?_))); (case side2 => exact HC0.1); rintro e w31 ⟨rfl, hb⟩; refine ⟨_, rfl, ?_⟩; have n0_ := a1z.mk (Kd.e9z (by (with_reducible repeat (first | apply Kd.R_alloc | apply Kd.b0z | apply Kd.b1z)); exact HO_6.1) hb); have n1_ := a1z.mk (b7z (g := gb101) (o := .cells #[.int .i64 a1_0, .int .i64 a1_1, .int .i64 a1_2] 82 (0, 0)) (by (with_reducible repeat (first | refine a6z ?_ _ | refine a7z ?_ | refine blk_alloc ?_ _)); exact BK101.1) hb); have n2_ := a1z.mk (b5z (by repeat (first | (with_reducible first | exact HB.1 | apply a3z | apply a0z | apply a2z | refine a4z ?_ GE101.1) | exact HB.1)) hb); clear HO_6; clear BK101; clear HB; have HO_6 := n0_; have BK101 := n1_; have HB := n2_; clear n0_ n1_ n2_; (try clear hb); (try clear hb2); (try clear hk); (try clear hi)))
       go_ret2
       exact ⟨_, by first | rfl | (simp [c1z, c0z] <;> rfl) | (simp [*, c1z, c0z] <;> rfl), by (with_reducible repeat (first | apply Kd.R_alloc | apply Kd.b0z | apply Kd.b1z)); exact Kd.c8z HO_6.1 (fun _ hk => trivial), by repeat (first | (with_reducible first | exact HB.1 | apply a3z | apply a0z | apply a2z | refine a4z ?_ GE101.1) | exact HB.1)⟩
      ·rw [if_neg c29] at H
       have c29b0 : decide (40 ≤ (l0.length : Int)) = false := decide_eq_false c29
       have c29b1 : decide (40 ≤ l0.length) = false := decide_eq_false (by omega)
       clear c29
       obtain ⟨y114, hy114⟩ : ∃ y_ : List (S82), y_ = (([] : List (S82))) := ⟨_, rfl⟩
       replace H : (if 0 ≤ t111 then (if t111 ≤ (l0.length : Int) then ((some (l0.take (t111 : Int).toNat : List (S82))).bind fun y117 => (if y114.length + y117.length < 5864062014805 then ((some (y114 ++ y117 : List (S82))).bind fun y121 => ((some (([(⟨(⟨a1_0, a1_1⟩ : S24), a1_2⟩ : S82)] : List (S82)) : List (S82))).bind fun y124 => (if y121.length + y124.length < 5864062014805 then ((some (y121 ++ y124 : List (S82))).bind fun y127 => ((some (l0.drop (t111 : Int).toNat : List (S82))).bind fun y130 => (if y127.length + y130.length < 5864062014805 then (some ((y127 ++ y130), true)) else (none)))) else (none)))) else (none))) else (none)) else (none)) = some (r1, r2) := by first | (rw [hy114]; with_reducible exact H) | (have H2_ := (Option.bind_some _ _).symm.trans H; rw [hy114]; with_reducible exact H2_) | (have H2_ := (Option.bind_some _ _).symm.trans H; with_reducible exact H2_) | with_reducible exact H | (rw [hy114]; exact H) | exact H
       have Ny114 := a1z.mk hy114
       clear hy114
       by_cases c32 : 0 ≤ t111
       ·rw [if_pos c32] at H
        have c32b0 := eq_true c32
        have c32b1 : decide (0 ≤ t111) = true := decide_eq_true c32
        clear c32
        by_cases c33 : t111 ≤ (l0.length : Int)
        ·rw [if_pos c33] at H
         have c33b0 := eq_true c33
         have c33b1 : decide (t111 ≤ (l0.length : Int)) = true := decide_eq_true c33
         clear c33
         obtain ⟨y117, hy117⟩ : ∃ y_ : List (S82), y_ = (l0.take (t111 : Int).toNat) := ⟨_, rfl⟩
         replace H : (if y114.length + y117.length < 5864062014805 then ((some (y114 ++ y117 : List (S82))).bind fun y121 => ((some (([(⟨(⟨a1_0, a1_1⟩ : S24), a1_2⟩ : S82)] : List (S82)) : List (S82))).bind fun y124 => (if y121.length + y124.length < 5864062014805 then ((some (y121 ++ y124 : List (S82))).bind fun y127 => ((some (l0.drop (t111 : Int).toNat : List (S82))).bind fun y130 => (if y127.length + y130.length < 5864062014805 then (some ((y127 ++ y130), true)) else (none)))) else (none)))) else (none)) = some (r1, r2) := by first | (rw [hy117]; with_reducible exact H) | (have H2_ := (Option.bind_some _ _).symm.trans H; rw [hy117]; with_reducible exact H2_) | (have H2_ := (Option.bind_some _ _).symm.trans H; with_reducible exact H2_) | with_reducible exact H | (rw [hy117]; exact H) | exact H
         have Ny117 := a1z.mk hy117
         clear hy117
         by_cases c34 : y114.length + y117.length < 5864062014805
         ·rw [if_pos c34] at H
          have LMc34 := a1z.mk c34
          clear c34
          obtain ⟨y121, hy121⟩ : ∃ y_ : List (S82), y_ = (y114 ++ y117) := ⟨_, rfl⟩
          replace H : ((some (([(⟨(⟨a1_0, a1_1⟩ : S24), a1_2⟩ : S82)] : List (S82)) : List (S82))).bind fun y124 => (if y121.length + y124.length < 5864062014805 then ((some (y121 ++ y124 : List (S82))).bind fun y127 => ((some (l0.drop (t111 : Int).toNat : List (S82))).bind fun y130 => (if y127.length + y130.length < 5864062014805 then (some ((y127 ++ y130), true)) else (none)))) else (none))) = some (r1, r2) := by first | (rw [hy121]; with_reducible exact H) | (have H2_ := (Option.bind_some _ _).symm.trans H; rw [hy121]; with_reducible exact H2_) | (have H2_ := (Option.bind_some _ _).symm.trans H; with_reducible exact H2_) | with_reducible exact H | (rw [hy121]; exact H) | exact H
          have Ny121 := a1z.mk hy121
          clear hy121
          obtain ⟨y124, hy124⟩ : ∃ y_ : List (S82), y_ = (([(⟨(⟨a1_0, a1_1⟩ : S24), a1_2⟩ : S82)] : List (S82))) := ⟨_, rfl⟩
          replace H : (if y121.length + y124.length < 5864062014805 then ((some (y121 ++ y124 : List (S82))).bind fun y127 => ((some (l0.drop (t111 : Int).toNat : List (S82))).bind fun y130 => (if y127.length + y130.length < 5864062014805 then (some ((y127 ++ y130), true)) else (none)))) else (none)) = some (r1, r2) := by first | (rw [hy124]; with_reducible exact H) | (have H2_ := (Option.bind_some _ _).symm.trans H; rw [hy124]; with_reducible exact H2_) | (have H2_ := (Option.bind_some _ _).symm.trans H; with_reducible exact H2_) | with_reducible exact H | (rw [hy124]; exact H) | exact H
          have Ny124 := a1z.mk hy124
          clear hy124
          by_cases c35 : y121.length + y124.length < 5864062014805
          ·rw [if_pos c35] at H
           have LMc35 := a1z.mk c35
           clear c35
           obtain ⟨y127, hy127⟩ : ∃ y_ : List (S82), y_ = (y121 ++ y124) := ⟨_, rfl⟩
           replace H : ((some (l0.drop (t111 : Int).toNat : List (S82))).bind fun y130 => (if y127.length + y130.length < 5864062014805 then (some ((y127 ++ y130), true)) else (none))) = some (r1, r2) := by first | (rw [hy127]; with_reducible exact H) | (have H2_ := (Option.bind_some _ _).symm.trans H; rw [hy127]; with_reducible exact H2_) | (have H2_ := (Option.bind_some _ _).symm.trans H; with_reducible exact H2_) | with_reducible exact H | (rw [hy127]; exact H) | exact H
           have Ny127 := a1z.mk hy127
           clear hy127
           have c36b0 := eq_true (of_decide_eq_true (by first | (with_reducible assumption) | assumption) : 0 ≤ t111)
           have c37b0 := eq_true (of_decide_eq_true (by first | (with_reducible assumption) | assumption) : t111 ≤ (l0.length : Int))
           obtain ⟨y130, hy130⟩ : ∃ y_ : List (S82), y_ = (l0.drop (t111 : Int).toNat) := ⟨_, rfl⟩
           replace H : (if y127.length + y130.length < 5864062014805 then (some ((y127 ++ y130), true)) else (none)) = some (r1, r2) := by first | (rw [hy130]; with_reducible exact H) | (have H2_ := (Option.bind_some _ _).symm.trans H; rw [hy130]; with_reducible exact H2_) | (have H2_ := (Option.bind_some _ _).symm.trans H; with_reducible exact H2_) | with_reducible exact H | (rw [hy130]; exact H) | exact H
           have Ny130 := a1z.mk hy130
           clear hy130
           by_cases c38 : y127.length + y130.length < 5864062014805
           ·rw [if_pos c38] at H
            have LMc38 := a1z.mk c38
            clear c38
            obtain ⟨y134, hy134⟩ : ∃ y_ : List (S82), y_ = (y127 ++ y130) := ⟨_, rfl⟩
            replace H : (some (y134, true)) = some (r1, r2) := by first | (rw [hy134]; with_reducible exact H) | (have H2_ := (Option.bind_some _ _).symm.trans H; rw [hy134]; with_reducible exact H2_) | (have H2_ := (Option.bind_some _ _).symm.trans H; with_reducible exact H2_) | with_reducible exact H | (rw [hy134]; exact H) | exact H
            have Ny134 := a1z.mk hy134
            clear hy134
            simp only [Option.some.injEq, Prod.mk.injEq] at H
            obtain ⟨rfl, rfl⟩ := H
            have hcz39_0 : wc.cell? ⟨gb101, 0, none⟩ = some (.int .i64 a1_0) := (a8z BK101.1 0).trans rfl
            have hcz39_1 : wc.cell? ⟨gb101, 1, none⟩ = some (.int .i64 a1_1) := (a8z BK101.1 1).trans rfl
            have hcz39_2 : wc.cell? ⟨gb101, 2, none⟩ = some (.int .i64 a1_2) := (a8z BK101.1 2).trans rfl
            have hfz39_0 := a9z BK101.1 0
            have hfz39_1 := a9z BK101.1 1
            have hfz39_2 := a9z BK101.1 2
            try go_wp2_with (first | ((with_reducible refine c2z (f := 92) rfl ?_); refine d1z (some 30) rfl rfl Try.func92 (by kernel_rfl) rfl #[.slice A0 l0.length c0, .agg #[.int .i64 a1_0, .int .i64 a1_1]] rfl (by (try simp only [List.map_toArray, List.map_cons, List.map_nil]); first | done | rfl | (simp only [List.length_drop, List.length_take]; rfl)) ?_; (with_reducible refine (spec_l3At.calls kj5 _ _ l0 a1_0 a1_1 t111 false _ ?side1 ?side2 A19.1).mono ?_); (case side1 => repeat (first | exact (Kd.f0z HR0.1 HB.1) | (with_reducible refine Kd.C_alloc ?_ _) | (with_reducible refine Kd.C_drewN ?_ _) | (with_reducible refine Kd.C_drew ?_))); (case side2 => exact HC0.1); rintro e w40 ⟨rfl, hb⟩; refine ⟨_, rfl, ?_⟩; have n0_ := a1z.mk (Kd.e9z (by (with_reducible repeat (first | apply Kd.R_alloc | apply Kd.b0z | apply Kd.b1z)); exact HO_6.1) hb); have n1_ := a1z.mk (b7z (g := gb101) (o := .cells #[.int .i64 a1_0, .int .i64 a1_1, .int .i64 a1_2] 82 (0, 0)) (by (with_reducible repeat (first | refine a6z ?_ _ | refine a7z ?_ | refine blk_alloc ?_ _)); exact BK101.1) hb); have n2_ := a1z.mk (b5z (by repeat (first | (with_reducible first | exact HB.1 | apply a3z | apply a0z | apply a2z | refine a4z ?_ GE101.1) | exact HB.1)) hb); clear HO_6; clear BK101; clear HB; have HO_6 := n0_; have BK101 := n1_; have HB := n2_; clear n0_ n1_ n2_; (try clear hb); (try clear hb2); (try clear hk); (try clear hi)))
            have n0_ := a1z.mk (Kd.b1z HO_6.1)
            have n1_ := a1z.mk (a7z BK101.1)
            have n2_ := a1z.mk (a2z HB.1)
            clear HO_6
            clear BK101
            clear HB
            have HO_6 := n0_
            have BK101 := n1_
            have HB := n2_
            clear n0_ n1_ n2_
            have q42 : (t111 : Int) ≤ ((l0.length : Int) : Int) := of_decide_eq_true (by first | (with_reducible assumption) | assumption)
            obtain ⟨i042, hi042, _, hsz42, _⟩ := info_parts info82
            have hroom42 : l0.length ≤ c0 := HC0.1
            have hC42 : Kd.C k82 _ A0 l0.length l0 := HR0.1
            have hcut42 := cut_to (P := Try.prog) 62 82 .i64 Try.underlying62 hi042 A0 l0.length c0 t111 (of_decide_eq_true (by first | (with_reducible assumption) | assumption)) q42 hroom42
            have hr42 := Kd.C_take (m := (t111 : Int).toNat) hC42 (by omega)
            have hy42 : y117.length = (t111 : Int).toNat := (by rw [Ny117.1, List.length_take]; omega)
            rw [← Ny117.1] at hr42
            rw [← hy42] at hcut42
            have HR120 := a1z.mk hr42
            have HC120 := a1z.mk (show y117.length ≤ c0 from by omega)
            clear hr42 hC42 hroom42 hi042 hsz42
            have KY42 := a1z.mk hy42
            clear hy42
            replace q42 := eq_true q42
            have q43 : (t111 : Int) ≤ ((l0.length : Int) : Int) := of_decide_eq_true (by first | (with_reducible assumption) | assumption)
            obtain ⟨i043, hi043, _, hsz43, _⟩ := info_parts info82
            have hroom43 : l0.length ≤ c0 := HC0.1
            have hC43 : Kd.C k82 _ A0 l0.length l0 := HR0.1
            have q043 : (0 : Int) ≤ (t111 : Int) := of_decide_eq_true (by first | (with_reducible assumption) | assumption)
            have hcut43 := cut_from (P := Try.prog) 62 82 .i64 Try.underlying62 hi043 3 hsz43 A0 l0.length c0 t111 q043 q43
            have hr43 := Kd.C_drop (m := (t111 : Int).toNat) (c := c0) hC43 (by omega) hroom43
            obtain ⟨A43, hA43⟩ : ∃ A1, A1 = (if c0 = (t111 : Int).toNat then A0 else (A0 : Option Addr).map (·.add ((t111 : Int).toNat * 3))) := ⟨_, rfl⟩
            obtain ⟨c43, hc43⟩ : ∃ c1, c1 = c0 - (t111 : Int).toNat := ⟨_, rfl⟩
            have hy43 : y130.length = l0.length - (t111 : Int).toNat := (by rw [Ny130.1, List.length_drop] <;> omega)
            rw [show (l0).drop (t111 : Int).toNat = y130 from Ny130.1.symm] at hr43
            replace hr43 : Kd.C k82 _ A43 y130.length y130 := (by rw [hA43]; exact hr43)
            rw [← hy43, ← hA43, ← hc43] at hcut43
            have HR133 := a1z.mk hr43
            have HC133 := a1z.mk (show y130.length ≤ c43 from by rw [hy43, hc43]; exact Nat.sub_le_sub_right hroom43 _)
            clear hr43 hC43 hroom43 hi043 hsz43 hc43
            have KY43 := a1z.mk hy43
            have KA43 := a1z.mk hA43
            clear hy43 hA43
            replace q43 := eq_true q43
            refine f7z (n := 14) (S := fun w' => w'.cell? ⟨gb101, 0, none⟩ = some (.int .i64 a1_0) ∧ w'.cell? ⟨gb101, 1, none⟩ = some (.int .i64 a1_1) ∧ w'.cell? ⟨gb101, 2, none⟩ = some (.int .i64 a1_2)) (ds := []) #[false, false, false, false, false, false, false, false, false, false, false, false, false, false] (by kernel_rfl) rfl rfl ⟨(a8z BK101.1 0).trans rfl, (a8z BK101.1 1).trans rfl, (a8z BK101.1 2).trans rfl⟩ (fun hHeld => ?_); refine e8z spec_WaysPut.tab12 spec_WaysPut.bits12 (fun HT_ HW_ => ?_)
            generalize w40.drew = w41 at HO_6 BK101 HB HR120 HR133 hHeld ⊢
            refine pure_ (i := 1) (N := some 44) (v := ?_) (a' := ?_) #[false, true, false, false, false, false, false, false, false, false, false, false, false, false] rfl rfl (b3z HT_.1 (by kernel_rfl)) (fun _ _ _ h => h) (Or.inl ⟨by rfl, ?_⟩) ?_ ?_
            rotate_left
            ·intro w'
             go_simp
             with_reducible rfl
            rotate_left
            ·simp only [Act.put, sA_, sZ_, sS_, i64_w, i32_w]
             rfl
            refine pure_ (i := 2) (N := some 45) (v := ?_) (a' := ?_) #[false, true, true, false, false, false, false, false, false, false, false, false, false, false] rfl rfl (b3z HT_.1 (by kernel_rfl)) (fun _ _ _ h => h) (Or.inl ⟨by rfl, ?_⟩) ?_ ?_
            rotate_left
            ·intro w'
             go_simp
             with_reducible rfl
            rotate_left
            ·simp only [Act.put, sA_, sZ_, sS_, i64_w, i32_w]
             rfl
            refine pure_ (i := 3) (N := some 46) (v := ?_) (a' := ?_) #[false, true, true, true, false, false, false, false, false, false, false, false, false, false] rfl rfl (b3z HT_.1 (by kernel_rfl)) (fun _ _ _ h => h) (Or.inl ⟨by rfl, ?_⟩) ?_ ?_
            rotate_left
            ·intro w'
             go_simp
             with_reducible rfl
            rotate_left
            ·simp only [Act.put, sA_, sZ_, sS_, i64_w, i32_w]
             rfl
            refine pure_ (i := 8) (N := some 51) (v := ?_) (a' := ?_) #[false, true, true, true, false, false, false, false, true, false, false, false, false, false] rfl rfl (b3z HT_.1 (by kernel_rfl)) (fun _ _ _ h => h) (Or.inl ⟨by rfl, ?_⟩) ?_ ?_
            rotate_left
            ·intro w'
             go_simp
             with_reducible rfl
            rotate_left
            ·simp only [Act.put, sA_, sZ_, sS_, i64_w, i32_w]
             rfl
            refine pure_ (i := 9) (N := some 52) (v := ?_) (a' := ?_) #[false, true, true, true, false, false, false, false, true, true, false, false, false, false] rfl rfl (b3z HT_.1 (by kernel_rfl)) (fun _ _ _ h => h) (Or.inl ⟨by rfl, ?_⟩) ?_ ?_
            rotate_left
            ·intro w'
             go_simp
             with_reducible rfl
            rotate_left
            ·simp only [Act.put, sA_, sZ_, sS_, i64_w, i32_w]
             rfl
            refine pure_ (i := 10) (N := some 53) (v := ?_) (a' := ?_) #[false, true, true, true, false, false, false, false, true, true, true, false, false, false] rfl rfl (b3z HT_.1 (by kernel_rfl)) (fun _ _ _ h => h) (Or.inl ⟨by rfl, ?_⟩) ?_ ?_
            rotate_left
            ·intro w'
             go_simp
             with_reducible rfl
            rotate_left
            ·simp only [Act.put, sA_, sZ_, sS_, i64_w, i32_w]
             rfl
            refine take_ (i := 5) (N := some 48) (v := ?_) (a' := ?_) #[false, true, true, true, false, true, false, false, true, true, true, false, false, false] rfl rfl (d6z HT_.1 HW_.1 (by kernel_rfl)) (fun _ _ _ h => h) (Or.inl ⟨by rfl, ?_⟩) hHeld ?_ ?_
            rotate_left
            ·rintro w' ⟨s0, s1, s2⟩
             go_simp
             with_reducible rfl
            rotate_left
            ·simp only [Act.put, sA_, sZ_, sS_, i64_w, i32_w]
             rfl
            refine join_ (σ := Value × Value × Value) 4 #[true, true, true, true, true, true, true, false, true, true, true, false, false, false] (fun s_ => [(43, s_.1), (47, s_.2.1), (49, s_.2.2)]) (fun s_ w' => (w'.cell? ⟨gb101, 0, none⟩ = some (.int .i64 a1_0) ∧ w'.cell? ⟨gb101, 1, none⟩ = some (.int .i64 a1_1) ∧ w'.cell? ⟨gb101, 2, none⟩ = some (.int .i64 a1_2)) ∧ (Kd.R k82 82 w' w.heap.size (fun k_ => some k_ ≠ (s_.2.2 : Value).ownBlock ∧ some k_ ≠ (v107 : Value).ownBlock ∧ k_ ≠ gb101) s_.2.1 y121) ∧ (Kd.R k82 82 w' w.heap.size (fun k_ => some k_ ≠ (s_.2.1 : Value).ownBlock ∧ some k_ ≠ (v107 : Value).ownBlock ∧ k_ ≠ gb101) s_.2.2 y124) ∧ (Kd.R k82 82 w' w.heap.size (fun k_ => some k_ ≠ (s_.2.1 : Value).ownBlock ∧ some k_ ≠ (s_.2.2 : Value).ownBlock ∧ k_ ≠ gb101) v107 t106) ∧ (w'.heap[gb101]? = some (.cells #[.int .i64 a1_0, .int .i64 a1_1, .int .i64 a1_2] 82 (0, 0))) ∧ (Below w.heap.size w w')) ?_ ?_
            rotate_left
            ·intro hCont
             refine two_ (i := 0) (j := 6) (Ni := some 43) (Nj := some 49) #[true, true, true, true, false, true, false, false, true, true, true, false, false, false] #[false, true, true, true, false, true, true, false, true, true, true, false, false, false] rfl rfl rfl rfl (two_of HT_.1 (by kernel_rfl)) (by decide) (by decide) (fun K hK => ?_) (fun K hK => ?_)
             ·skip
              refine Kd.g8z k82 _ 82 ?hg (N := 43) ?hd (xs := ([] : List (S82))) (inner := []) (ok := fun _ => True) (okp := fun _ => True) ?hr ?hp (fun _ hk => hk) trivial (Below.refl _ _) (Nat.le_refl _) (by simp) ?_; (case hd => rfl); (case hg => rfl); (case hr => first | (go_simp; done) | (go_simp; rfl)); (case hp => exact (Reps.none _ _))
              intro v115 w44 ho45 hb hg_ hnew_
              clear hg_ hnew_
              (first | rw [← Ny114.1] at ho45 | (simp only [Int.reduceToNat] at ho45; rw [← Ny114.1] at ho45))
              have n0_ := a1z.mk (Kd.b9z (by (with_reducible repeat (first | apply Kd.R_alloc | apply Kd.b0z | apply Kd.b1z)); exact HO_6.1) (Kd.c6z ho45) hb)
              have n1_ := a1z.mk (Kd.c7z (Kd.d7z (Kd.c5z ho45 (Kd.R_lt (by (with_reducible repeat (first | apply Kd.R_alloc | apply Kd.b0z | apply Kd.b1z)); exact HO_6.1))) (g := gb101) (o := .cells #[.int .i64 a1_0, .int .i64 a1_1, .int .i64 a1_2] 82 (0, 0)) (by (with_reducible repeat (first | refine a6z ?_ _ | refine a7z ?_ | refine blk_alloc ?_ _)); exact BK101.1)) (b4z (by repeat (first | (with_reducible first | exact HB.1 | apply a3z | apply a0z | apply a2z | refine a4z ?_ GE101.1) | exact HB.1))))
              have n2_ := a1z.mk (b7z (g := gb101) (o := .cells #[.int .i64 a1_0, .int .i64 a1_1, .int .i64 a1_2] 82 (0, 0)) (by (with_reducible repeat (first | refine a6z ?_ _ | refine a7z ?_ | refine blk_alloc ?_ _)); exact BK101.1) hb)
              have n3_ := a1z.mk (b5z (by repeat (first | (with_reducible first | exact HB.1 | apply a3z | apply a0z | apply a2z | refine a4z ?_ GE101.1) | exact HB.1)) hb)
              clear HO_6
              clear BK101
              clear HB
              have HO_6 := n0_
              have HO116 := n1_
              have BK101 := n2_
              have HB := n3_
              clear n0_ n1_ n2_ n3_
              clear hb ho45
              refine hK.out _ _ ⟨(a8z BK101.1 0).trans rfl, (a8z BK101.1 1).trans rfl, (a8z BK101.1 2).trans rfl⟩ (fun hHeld => ?_)
              clear hK K
              refine norm_ (a' := ?_) ?_ ?_
              rotate_left
              ·show Act.put _ (some 43) _ = _
               simp only [Act.put, sA_, sZ_, sS_, i64_w, i32_w]
               rfl
              refine two_ (i := 4) (j := 6) (Ni := some 47) (Nj := some 49) #[true, true, true, true, true, true, false, false, true, true, true, false, false, false] #[true, true, true, true, false, true, true, false, true, true, true, false, false, false] rfl rfl rfl rfl (two_of HT_.1 (by kernel_rfl)) (by decide) (by decide) (fun K hK => ?_) (fun K hK => ?_)
              ·skip
               refine Kd.f8z k82 (w0 := w) w.heap.size (by rfl) (.tmp 43) (.tmp 46) 62 82 (.agg #[(.int .i64 0), (.int .i64 0), (.int .i64 0)]) 24 rfl Try.underlying62 info82 rfl (by decide) (by omega) v115 y114 y117 _ _ _ (fun k_ => some k_ ≠ (v107 : Value).ownBlock ∧ k_ ≠ gb101) (fun _ => False) rfl rfl ?aO ?aR (fun _ _ h => h) (fun _ h => h.elim) ?aF ?aB ?aS ?aL ?_
               (case aR => repeat (first | exact (Kd.f0z HR120.1 HB.1) | (with_reducible refine Kd.C_alloc ?_ _) | (with_reducible refine Kd.C_drewN ?_ _) | (with_reducible refine Kd.C_drew ?_)))
               (case aB => exact (by repeat (first | (with_reducible first | exact HB.1 | apply a3z | apply a0z | apply a2z | refine a4z ?_ GE101.1) | exact HB.1)))
               (case aF => exact (fun k_ hk => ⟨Kd.fresh' (Kd.R_lt (by (with_reducible repeat (first | apply Kd.R_alloc | apply Kd.b0z | apply Kd.b1z)); exact HO_6.1)) k_ hk, Kd.freshB (g := gb101) (o := .cells #[.int .i64 a1_0, .int .i64 a1_1, .int .i64 a1_2] 82 (0, 0)) (by (with_reducible repeat (first | refine a6z ?_ _ | refine a7z ?_ | refine blk_alloc ?_ _)); exact BK101.1) k_ hk⟩))
               (case aO => exact (by (with_reducible repeat (first | apply Kd.R_alloc | apply Kd.b0z | apply Kd.b1z)); exact Kd.c8z HO116.1 (fun _ hk => ⟨hk.1.2, hk.2⟩)))
               (case aS => exact (b4z (by repeat (first | (with_reducible first | exact HB.1 | apply a3z | apply a0z | apply a2z | refine a4z ?_ GE101.1) | exact HB.1))))
               (case aL => have := LMc34.1; omega)
               intro v122 w46 ho hb hg hat
               rw [← Ny121.1] at ho
               have n0_ := a1z.mk (Kd.R_after (ok := (fun k_ => k_ ≠ gb101)) (by (with_reducible repeat (first | apply Kd.R_alloc | apply Kd.b0z | apply Kd.b1z)); exact HO_6.1) hg hat)
               have n1_ := a1z.mk (g6z (g := gb101) (o := .cells #[.int .i64 a1_0, .int .i64 a1_1, .int .i64 a1_2] 82 (0, 0)) (by (with_reducible repeat (first | refine a6z ?_ _ | refine a7z ?_ | refine blk_alloc ?_ _)); exact BK101.1) hg (Kd.R_away HO116.1 (fun _ hk => hk.2)))
               have n2_ := a1z.mk (hb)
               have n3_ := a1z.mk (ho)
               clear HO_6
               clear BK101
               clear HB
               clear HO116
               have HO_6 := n0_
               have BK101 := n1_
               have HB := n2_
               have HO123 := n3_
               clear n0_ n1_ n2_ n3_
               clear ho hb hg hat
               refine hK.out _ _ ⟨(a8z BK101.1 0).trans rfl, (a8z BK101.1 1).trans rfl, (a8z BK101.1 2).trans rfl⟩ (fun hHeld => ?_)
               clear hK K
               refine norm_ (a' := ?_) ?_ ?_
               rotate_left
               ·show Act.put _ (some 47) _ = _
                simp only [Act.put, sA_, sZ_, sS_, i64_w, i32_w]
                rfl
               refine one_ (i := 6) (N := some 49) #[true, true, true, true, true, true, true, false, true, true, true, false, false, false] rfl rfl (e5z HT_.1 (by kernel_rfl)) (by decide) (fun K hK => ?_)
               refine Kd.g8z k82 _ 82 ?hg (N := 49) ?hd (xs := ([(⟨(⟨a1_0, a1_1⟩ : S24), a1_2⟩ : S82)] : List (S82))) (inner := [.int .i64 a1_0, .int .i64 a1_1, .int .i64 a1_2]) (ok := fun _ => True) (okp := fun _ => True) ?hr ?hp (fun _ hk => hk) trivial (Below.refl _ _) (Nat.le_refl _) (by simp) ?_; (case hd => rfl); (case hg => rfl); (case hr => first | (go_simp; done) | (go_simp; rfl)); (case hp => exact (Reps.c3 (show Kd.M k82 _ _ _ (⟨(⟨a1_0, a1_1⟩ : S24), a1_2⟩ : S82) [.int .i64 a1_0, .int .i64 a1_1, .int .i64 a1_2] from (k82_mkM _ _ _ (⟨(⟨a1_0, a1_1⟩ : S24), a1_2⟩ : S82) )) (Reps.none _ _)))
               intro v125 w47 ho48 hb hg_ hnew_
               clear hg_ hnew_
               (first | rw [← Ny124.1] at ho48 | (simp only [Int.reduceToNat] at ho48; rw [← Ny124.1] at ho48))
               have n0_ := a1z.mk (Kd.b9z (by (with_reducible repeat (first | apply Kd.R_alloc | apply Kd.b0z | apply Kd.b1z)); exact HO_6.1) (Kd.c6z ho48) hb)
               have n1_ := a1z.mk (Kd.b9z (by (with_reducible repeat (first | apply Kd.R_alloc | apply Kd.b0z | apply Kd.b1z)); exact HO123.1) (Kd.c6z ho48) hb)
               have n2_ := a1z.mk (Kd.c7z (Kd.d7z (Kd.c5z (Kd.c5z ho48 (Kd.R_lt (by (with_reducible repeat (first | apply Kd.R_alloc | apply Kd.b0z | apply Kd.b1z)); exact HO_6.1))) (Kd.R_lt (by (with_reducible repeat (first | apply Kd.R_alloc | apply Kd.b0z | apply Kd.b1z)); exact HO123.1))) (g := gb101) (o := .cells #[.int .i64 a1_0, .int .i64 a1_1, .int .i64 a1_2] 82 (0, 0)) (by (with_reducible repeat (first | refine a6z ?_ _ | refine a7z ?_ | refine blk_alloc ?_ _)); exact BK101.1)) (b4z (by repeat (first | (with_reducible first | exact HB.1 | apply a3z | apply a0z | apply a2z | refine a4z ?_ GE101.1) | exact HB.1))))
               have n3_ := a1z.mk (b7z (g := gb101) (o := .cells #[.int .i64 a1_0, .int .i64 a1_1, .int .i64 a1_2] 82 (0, 0)) (by (with_reducible repeat (first | refine a6z ?_ _ | refine a7z ?_ | refine blk_alloc ?_ _)); exact BK101.1) hb)
               have n4_ := a1z.mk (b5z (by repeat (first | (with_reducible first | exact HB.1 | apply a3z | apply a0z | apply a2z | refine a4z ?_ GE101.1) | exact HB.1)) hb)
               clear HO_6
               clear HO123
               clear BK101
               clear HB
               have HO_6 := n0_
               have HO123 := n1_
               have HO126 := n2_
               have BK101 := n3_
               have HB := n4_
               clear n0_ n1_ n2_ n3_ n4_
               clear hb ho48
               refine hK.out _ _ ⟨(a8z BK101.1 0).trans rfl, (a8z BK101.1 1).trans rfl, (a8z BK101.1 2).trans rfl⟩ (fun hHeld => ?_)
               clear hK K
               refine norm_ (a' := ?_) ?_ ?_
               rotate_left
               ·show Act.put _ (some 49) _ = _
                simp only [Act.put, sA_, sZ_, sS_, i64_w, i32_w]
                rfl
               exact norm_ (by simp only [putAll, Act.put, sA_, sZ_, sS_]) (hCont (v115, v122, v125) _ ⟨hHeld, (by (with_reducible repeat (first | apply Kd.R_alloc | apply Kd.b0z | apply Kd.b1z)); exact Kd.c8z HO123.1 (fun _ hk => ⟨hk.2, ⟨hk.1.1, hk.1.2⟩⟩)), (by (with_reducible repeat (first | apply Kd.R_alloc | apply Kd.b0z | apply Kd.b1z)); exact Kd.c8z HO126.1 (fun _ hk => ⟨hk.1.2, ⟨hk.1.1.2, hk.2⟩⟩)), (by (with_reducible repeat (first | apply Kd.R_alloc | apply Kd.b0z | apply Kd.b1z)); exact Kd.c8z HO_6.1 (fun _ hk => ⟨hk.1.2, ⟨hk.2, hk.1.1⟩⟩)), (by (with_reducible repeat (first | refine a6z ?_ _ | refine a7z ?_ | refine blk_alloc ?_ _)); exact BK101.1), (by repeat (first | (with_reducible first | exact HB.1 | apply a3z | apply a0z | apply a2z | refine a4z ?_ GE101.1) | exact HB.1))⟩)
              ·skip
               refine Kd.g8z k82 _ 82 ?hg (N := 49) ?hd (xs := ([(⟨(⟨a1_0, a1_1⟩ : S24), a1_2⟩ : S82)] : List (S82))) (inner := [.int .i64 a1_0, .int .i64 a1_1, .int .i64 a1_2]) (ok := fun _ => True) (okp := fun _ => True) ?hr ?hp (fun _ hk => hk) trivial (Below.refl _ _) (Nat.le_refl _) (by simp) ?_; (case hd => rfl); (case hg => rfl); (case hr => first | (go_simp; done) | (go_simp; rfl)); (case hp => exact (Reps.c3 (show Kd.M k82 _ _ _ (⟨(⟨a1_0, a1_1⟩ : S24), a1_2⟩ : S82) [.int .i64 a1_0, .int .i64 a1_1, .int .i64 a1_2] from (k82_mkM _ _ _ (⟨(⟨a1_0, a1_1⟩ : S24), a1_2⟩ : S82) )) (Reps.none _ _)))
               intro v125 w46 ho47 hb hg_ hnew_
               clear hg_ hnew_
               (first | rw [← Ny124.1] at ho47 | (simp only [Int.reduceToNat] at ho47; rw [← Ny124.1] at ho47))
               have n0_ := a1z.mk (Kd.b9z (by (with_reducible repeat (first | apply Kd.R_alloc | apply Kd.b0z | apply Kd.b1z)); exact HO_6.1) (Kd.c6z ho47) hb)
               have n1_ := a1z.mk (Kd.b9z (by (with_reducible repeat (first | apply Kd.R_alloc | apply Kd.b0z | apply Kd.b1z)); exact HO116.1) (Kd.c6z ho47) hb)
               have n2_ := a1z.mk (Kd.c7z (Kd.d7z (Kd.c5z (Kd.c5z ho47 (Kd.R_lt (by (with_reducible repeat (first | apply Kd.R_alloc | apply Kd.b0z | apply Kd.b1z)); exact HO_6.1))) (Kd.R_lt (by (with_reducible repeat (first | apply Kd.R_alloc | apply Kd.b0z | apply Kd.b1z)); exact HO116.1))) (g := gb101) (o := .cells #[.int .i64 a1_0, .int .i64 a1_1, .int .i64 a1_2] 82 (0, 0)) (by (with_reducible repeat (first | refine a6z ?_ _ | refine a7z ?_ | refine blk_alloc ?_ _)); exact BK101.1)) (b4z (by repeat (first | (with_reducible first | exact HB.1 | apply a3z | apply a0z | apply a2z | refine a4z ?_ GE101.1) | exact HB.1))))
               have n3_ := a1z.mk (b7z (g := gb101) (o := .cells #[.int .i64 a1_0, .int .i64 a1_1, .int .i64 a1_2] 82 (0, 0)) (by (with_reducible repeat (first | refine a6z ?_ _ | refine a7z ?_ | refine blk_alloc ?_ _)); exact BK101.1) hb)
               have n4_ := a1z.mk (b5z (by repeat (first | (with_reducible first | exact HB.1 | apply a3z | apply a0z | apply a2z | refine a4z ?_ GE101.1) | exact HB.1)) hb)
               clear HO_6
               clear HO116
               clear BK101
               clear HB
               have HO_6 := n0_
               have HO116 := n1_
               have HO126 := n2_
               have BK101 := n3_
               have HB := n4_
               clear n0_ n1_ n2_ n3_ n4_
               clear hb ho47
               refine hK.out _ _ ⟨(a8z BK101.1 0).trans rfl, (a8z BK101.1 1).trans rfl, (a8z BK101.1 2).trans rfl⟩ (fun hHeld => ?_)
               clear hK K
               refine norm_ (a' := ?_) ?_ ?_
               rotate_left
               ·show Act.put _ (some 49) _ = _
                simp only [Act.put, sA_, sZ_, sS_, i64_w, i32_w]
                rfl
               refine one_ (i := 4) (N := some 47) #[true, true, true, true, true, true, true, false, true, true, true, false, false, false] rfl rfl (e5z HT_.1 (by kernel_rfl)) (by decide) (fun K hK => ?_)
               refine Kd.f8z k82 (w0 := w) w.heap.size (by rfl) (.tmp 43) (.tmp 46) 62 82 (.agg #[(.int .i64 0), (.int .i64 0), (.int .i64 0)]) 24 rfl Try.underlying62 info82 rfl (by decide) (by omega) v115 y114 y117 _ _ _ (fun k_ => some k_ ≠ (v107 : Value).ownBlock ∧ some k_ ≠ (v125 : Value).ownBlock ∧ k_ ≠ gb101) (fun _ => False) rfl rfl ?aO ?aR (fun _ _ h => h) (fun _ h => h.elim) ?aF ?aB ?aS ?aL ?_
               (case aR => repeat (first | exact (Kd.f0z HR120.1 HB.1) | (with_reducible refine Kd.C_alloc ?_ _) | (with_reducible refine Kd.C_drewN ?_ _) | (with_reducible refine Kd.C_drew ?_)))
               (case aB => exact (by repeat (first | (with_reducible first | exact HB.1 | apply a3z | apply a0z | apply a2z | refine a4z ?_ GE101.1) | exact HB.1)))
               (case aF => exact (fun k_ hk => ⟨Kd.fresh' (Kd.R_lt (by (with_reducible repeat (first | apply Kd.R_alloc | apply Kd.b0z | apply Kd.b1z)); exact HO_6.1)) k_ hk, Kd.fresh' (Kd.R_lt (by (with_reducible repeat (first | apply Kd.R_alloc | apply Kd.b0z | apply Kd.b1z)); exact HO126.1)) k_ hk, Kd.freshB (g := gb101) (o := .cells #[.int .i64 a1_0, .int .i64 a1_1, .int .i64 a1_2] 82 (0, 0)) (by (with_reducible repeat (first | refine a6z ?_ _ | refine a7z ?_ | refine blk_alloc ?_ _)); exact BK101.1) k_ hk⟩))
               (case aO => exact (by (with_reducible repeat (first | apply Kd.R_alloc | apply Kd.b0z | apply Kd.b1z)); exact Kd.c8z HO116.1 (fun _ hk => ⟨hk.1.1.2, ⟨hk.2, hk.1.2⟩⟩)))
               (case aS => exact (b4z (by repeat (first | (with_reducible first | exact HB.1 | apply a3z | apply a0z | apply a2z | refine a4z ?_ GE101.1) | exact HB.1))))
               (case aL => have := LMc34.1; omega)
               intro v122 w48 ho hb hg hat
               rw [← Ny121.1] at ho
               have n0_ := a1z.mk (Kd.R_after (ok := (fun k_ => some k_ ≠ (v125 : Value).ownBlock ∧ k_ ≠ gb101)) (by (with_reducible repeat (first | apply Kd.R_alloc | apply Kd.b0z | apply Kd.b1z)); exact Kd.c8z HO_6.1 (fun _ hk => ⟨⟨hk.2, hk.1.1⟩, hk.1.2⟩)) hg hat)
               have n1_ := a1z.mk (g6z (g := gb101) (o := .cells #[.int .i64 a1_0, .int .i64 a1_1, .int .i64 a1_2] 82 (0, 0)) (by (with_reducible repeat (first | refine a6z ?_ _ | refine a7z ?_ | refine blk_alloc ?_ _)); exact BK101.1) hg (Kd.R_away HO116.1 (fun _ hk => hk.1.2)))
               have n2_ := a1z.mk (Kd.R_after (ok := (fun k_ => some k_ ≠ (v107 : Value).ownBlock ∧ k_ ≠ gb101)) (by (with_reducible repeat (first | apply Kd.R_alloc | apply Kd.b0z | apply Kd.b1z)); exact Kd.c8z HO126.1 (fun _ hk => ⟨⟨hk.1.1.2, hk.2⟩, hk.1.2⟩)) hg hat)
               have n3_ := a1z.mk (hb)
               have n4_ := a1z.mk (ho)
               clear HO_6
               clear BK101
               clear HO126
               clear HB
               clear HO116
               have HO_6 := n0_
               have BK101 := n1_
               have HO126 := n2_
               have HB := n3_
               have HO123 := n4_
               clear n0_ n1_ n2_ n3_ n4_
               clear ho hb hg hat
               refine hK.out _ _ ⟨(a8z BK101.1 0).trans rfl, (a8z BK101.1 1).trans rfl, (a8z BK101.1 2).trans rfl⟩ (fun hHeld => ?_)
               clear hK K
               refine norm_ (a' := ?_) ?_ ?_
               rotate_left
               ·show Act.put _ (some 47) _ = _
                simp only [Act.put, sA_, sZ_, sS_, i64_w, i32_w]
                rfl
               exact norm_ (by simp only [putAll, Act.put, sA_, sZ_, sS_]) (hCont (v115, v122, v125) _ ⟨hHeld, (by (with_reducible repeat (first | apply Kd.R_alloc | apply Kd.b0z | apply Kd.b1z)); exact Kd.c8z HO123.1 (fun _ hk => ⟨hk.2.1, ⟨hk.1, hk.2.2⟩⟩)), (by (with_reducible repeat (first | apply Kd.R_alloc | apply Kd.b0z | apply Kd.b1z)); exact Kd.c8z HO126.1 (fun _ hk => ⟨hk.2, ⟨hk.1.1, hk.1.2⟩⟩)), (by (with_reducible repeat (first | apply Kd.R_alloc | apply Kd.b0z | apply Kd.b1z)); exact Kd.c8z HO_6.1 (fun _ hk => ⟨hk.2, ⟨hk.1.1, hk.1.2⟩⟩)), (by (with_reducible repeat (first | refine a6z ?_ _ | refine a7z ?_ | refine blk_alloc ?_ _)); exact BK101.1), (by repeat (first | (with_reducible first | exact HB.1 | apply a3z | apply a0z | apply a2z | refine a4z ?_ GE101.1) | exact HB.1))⟩)
             ·skip
              refine Kd.g8z k82 _ 82 ?hg (N := 49) ?hd (xs := ([(⟨(⟨a1_0, a1_1⟩ : S24), a1_2⟩ : S82)] : List (S82))) (inner := [.int .i64 a1_0, .int .i64 a1_1, .int .i64 a1_2]) (ok := fun _ => True) (okp := fun _ => True) ?hr ?hp (fun _ hk => hk) trivial (Below.refl _ _) (Nat.le_refl _) (by simp) ?_; (case hd => rfl); (case hg => rfl); (case hr => first | (go_simp; done) | (go_simp; rfl)); (case hp => exact (Reps.c3 (show Kd.M k82 _ _ _ (⟨(⟨a1_0, a1_1⟩ : S24), a1_2⟩ : S82) [.int .i64 a1_0, .int .i64 a1_1, .int .i64 a1_2] from (k82_mkM _ _ _ (⟨(⟨a1_0, a1_1⟩ : S24), a1_2⟩ : S82) )) (Reps.none _ _)))
              intro v125 w44 ho45 hb hg_ hnew_
              clear hg_ hnew_
              (first | rw [← Ny124.1] at ho45 | (simp only [Int.reduceToNat] at ho45; rw [← Ny124.1] at ho45))
              have n0_ := a1z.mk (Kd.b9z (by (with_reducible repeat (first | apply Kd.R_alloc | apply Kd.b0z | apply Kd.b1z)); exact HO_6.1) (Kd.c6z ho45) hb)
              have n1_ := a1z.mk (Kd.c7z (Kd.d7z (Kd.c5z ho45 (Kd.R_lt (by (with_reducible repeat (first | apply Kd.R_alloc | apply Kd.b0z | apply Kd.b1z)); exact HO_6.1))) (g := gb101) (o := .cells #[.int .i64 a1_0, .int .i64 a1_1, .int .i64 a1_2] 82 (0, 0)) (by (with_reducible repeat (first | refine a6z ?_ _ | refine a7z ?_ | refine blk_alloc ?_ _)); exact BK101.1)) (b4z (by repeat (first | (with_reducible first | exact HB.1 | apply a3z | apply a0z | apply a2z | refine a4z ?_ GE101.1) | exact HB.1))))
              have n2_ := a1z.mk (b7z (g := gb101) (o := .cells #[.int .i64 a1_0, .int .i64 a1_1, .int .i64 a1_2] 82 (0, 0)) (by (with_reducible repeat (first | refine a6z ?_ _ | refine a7z ?_ | refine blk_alloc ?_ _)); exact BK101.1) hb)
              have n3_ := a1z.mk (b5z (by repeat (first | (with_reducible first | exact HB.1 | apply a3z | apply a0z | apply a2z | refine a4z ?_ GE101.1) | exact HB.1)) hb)
              clear HO_6
              clear BK101
              clear HB
              have HO_6 := n0_
              have HO126 := n1_
              have BK101 := n2_
              have HB := n3_
              clear n0_ n1_ n2_ n3_
              clear hb ho45
              refine hK.out _ _ ⟨(a8z BK101.1 0).trans rfl, (a8z BK101.1 1).trans rfl, (a8z BK101.1 2).trans rfl⟩ (fun hHeld => ?_)
              clear hK K
              refine norm_ (a' := ?_) ?_ ?_
              rotate_left
              ·show Act.put _ (some 49) _ = _
               simp only [Act.put, sA_, sZ_, sS_, i64_w, i32_w]
               rfl
              refine one_ (i := 0) (N := some 43) #[true, true, true, true, false, true, true, false, true, true, true, false, false, false] rfl rfl (e5z HT_.1 (by kernel_rfl)) (by decide) (fun K hK => ?_)
              refine Kd.g8z k82 _ 82 ?hg (N := 43) ?hd (xs := ([] : List (S82))) (inner := []) (ok := fun _ => True) (okp := fun _ => True) ?hr ?hp (fun _ hk => hk) trivial (Below.refl _ _) (Nat.le_refl _) (by simp) ?_; (case hd => rfl); (case hg => rfl); (case hr => first | (go_simp; done) | (go_simp; rfl)); (case hp => exact (Reps.none _ _))
              intro v115 w46 ho47 hb hg_ hnew_
              clear hg_ hnew_
              (first | rw [← Ny114.1] at ho47 | (simp only [Int.reduceToNat] at ho47; rw [← Ny114.1] at ho47))
              have n0_ := a1z.mk (Kd.b9z (by (with_reducible repeat (first | apply Kd.R_alloc | apply Kd.b0z | apply Kd.b1z)); exact HO_6.1) (Kd.c6z ho47) hb)
              have n1_ := a1z.mk (Kd.b9z (by (with_reducible repeat (first | apply Kd.R_alloc | apply Kd.b0z | apply Kd.b1z)); exact HO126.1) (Kd.c6z ho47) hb)
              have n2_ := a1z.mk (Kd.c7z (Kd.d7z (Kd.c5z (Kd.c5z ho47 (Kd.R_lt (by (with_reducible repeat (first | apply Kd.R_alloc | apply Kd.b0z | apply Kd.b1z)); exact HO_6.1))) (Kd.R_lt (by (with_reducible repeat (first | apply Kd.R_alloc | apply Kd.b0z | apply Kd.b1z)); exact HO126.1))) (g := gb101) (o := .cells #[.int .i64 a1_0, .int .i64 a1_1, .int .i64 a1_2] 82 (0, 0)) (by (with_reducible repeat (first | refine a6z ?_ _ | refine a7z ?_ | refine blk_alloc ?_ _)); exact BK101.1)) (b4z (by repeat (first | (with_reducible first | exact HB.1 | apply a3z | apply a0z | apply a2z | refine a4z ?_ GE101.1) | exact HB.1))))
              have n3_ := a1z.mk (b7z (g := gb101) (o := .cells #[.int .i64 a1_0, .int .i64 a1_1, .int .i64 a1_2] 82 (0, 0)) (by (with_reducible repeat (first | refine a6z ?_ _ | refine a7z ?_ | refine blk_alloc ?_ _)); exact BK101.1) hb)
              have n4_ := a1z.mk (b5z (by repeat (first | (with_reducible first | exact HB.1 | apply a3z | apply a0z | apply a2z | refine a4z ?_ GE101.1) | exact HB.1)) hb)
              clear HO_6
              clear HO126
              clear BK101
              clear HB
              have HO_6 := n0_
              have HO126 := n1_
              have HO116 := n2_
              have BK101 := n3_
              have HB := n4_
              clear n0_ n1_ n2_ n3_ n4_
              clear hb ho47
              refine hK.out _ _ ⟨(a8z BK101.1 0).trans rfl, (a8z BK101.1 1).trans rfl, (a8z BK101.1 2).trans rfl⟩ (fun hHeld => ?_)
              clear hK K
              refine norm_ (a' := ?_) ?_ ?_
              rotate_left
              ·show Act.put _ (some 43) _ = _
               simp only [Act.put, sA_, sZ_, sS_, i64_w, i32_w]
               rfl
              refine one_ (i := 4) (N := some 47) #[true, true, true, true, true, true, true, false, true, true, true, false, false, false] rfl rfl (e5z HT_.1 (by kernel_rfl)) (by decide) (fun K hK => ?_)
              refine Kd.f8z k82 (w0 := w) w.heap.size (by rfl) (.tmp 43) (.tmp 46) 62 82 (.agg #[(.int .i64 0), (.int .i64 0), (.int .i64 0)]) 24 rfl Try.underlying62 info82 rfl (by decide) (by omega) v115 y114 y117 _ _ _ (fun k_ => some k_ ≠ (v107 : Value).ownBlock ∧ some k_ ≠ (v125 : Value).ownBlock ∧ k_ ≠ gb101) (fun _ => False) rfl rfl ?aO ?aR (fun _ _ h => h) (fun _ h => h.elim) ?aF ?aB ?aS ?aL ?_
              (case aR => repeat (first | exact (Kd.f0z HR120.1 HB.1) | (with_reducible refine Kd.C_alloc ?_ _) | (with_reducible refine Kd.C_drewN ?_ _) | (with_reducible refine Kd.C_drew ?_)))
              (case aB => exact (by repeat (first | (with_reducible first | exact HB.1 | apply a3z | apply a0z | apply a2z | refine a4z ?_ GE101.1) | exact HB.1)))
              (case aF => exact (fun k_ hk => ⟨Kd.fresh' (Kd.R_lt (by (with_reducible repeat (first | apply Kd.R_alloc | apply Kd.b0z | apply Kd.b1z)); exact HO_6.1)) k_ hk, Kd.fresh' (Kd.R_lt (by (with_reducible repeat (first | apply Kd.R_alloc | apply Kd.b0z | apply Kd.b1z)); exact HO126.1)) k_ hk, Kd.freshB (g := gb101) (o := .cells #[.int .i64 a1_0, .int .i64 a1_1, .int .i64 a1_2] 82 (0, 0)) (by (with_reducible repeat (first | refine a6z ?_ _ | refine a7z ?_ | refine blk_alloc ?_ _)); exact BK101.1) k_ hk⟩))
              (case aO => exact (by (with_reducible repeat (first | apply Kd.R_alloc | apply Kd.b0z | apply Kd.b1z)); exact Kd.c8z HO116.1 (fun _ hk => ⟨hk.1.1.2, ⟨hk.1.2, hk.2⟩⟩)))
              (case aS => exact (b4z (by repeat (first | (with_reducible first | exact HB.1 | apply a3z | apply a0z | apply a2z | refine a4z ?_ GE101.1) | exact HB.1))))
              (case aL => have := LMc34.1; omega)
              intro v122 w48 ho hb hg hat
              rw [← Ny121.1] at ho
              have n0_ := a1z.mk (Kd.R_after (ok := (fun k_ => some k_ ≠ (v125 : Value).ownBlock ∧ k_ ≠ gb101)) (by (with_reducible repeat (first | apply Kd.R_alloc | apply Kd.b0z | apply Kd.b1z)); exact Kd.c8z HO_6.1 (fun _ hk => ⟨⟨hk.1.2, hk.1.1⟩, hk.2⟩)) hg hat)
              have n1_ := a1z.mk (g6z (g := gb101) (o := .cells #[.int .i64 a1_0, .int .i64 a1_1, .int .i64 a1_2] 82 (0, 0)) (by (with_reducible repeat (first | refine a6z ?_ _ | refine a7z ?_ | refine blk_alloc ?_ _)); exact BK101.1) hg (Kd.R_away HO116.1 (fun _ hk => hk.2)))
              have n2_ := a1z.mk (Kd.R_after (ok := (fun k_ => some k_ ≠ (v107 : Value).ownBlock ∧ k_ ≠ gb101)) (by (with_reducible repeat (first | apply Kd.R_alloc | apply Kd.b0z | apply Kd.b1z)); exact Kd.c8z HO126.1 (fun _ hk => ⟨⟨hk.1.1.2, hk.1.2⟩, hk.2⟩)) hg hat)
              have n3_ := a1z.mk (hb)
              have n4_ := a1z.mk (ho)
              clear HO_6
              clear BK101
              clear HO126
              clear HB
              clear HO116
              have HO_6 := n0_
              have BK101 := n1_
              have HO126 := n2_
              have HB := n3_
              have HO123 := n4_
              clear n0_ n1_ n2_ n3_ n4_
              clear ho hb hg hat
              refine hK.out _ _ ⟨(a8z BK101.1 0).trans rfl, (a8z BK101.1 1).trans rfl, (a8z BK101.1 2).trans rfl⟩ (fun hHeld => ?_)
              clear hK K
              refine norm_ (a' := ?_) ?_ ?_
              rotate_left
              ·show Act.put _ (some 47) _ = _
               simp only [Act.put, sA_, sZ_, sS_, i64_w, i32_w]
               rfl
              exact norm_ (by simp only [putAll, Act.put, sA_, sZ_, sS_]) (hCont (v115, v122, v125) _ ⟨hHeld, (by (with_reducible repeat (first | apply Kd.R_alloc | apply Kd.b0z | apply Kd.b1z)); exact Kd.c8z HO123.1 (fun _ hk => ⟨hk.2.1, ⟨hk.1, hk.2.2⟩⟩)), (by (with_reducible repeat (first | apply Kd.R_alloc | apply Kd.b0z | apply Kd.b1z)); exact Kd.c8z HO126.1 (fun _ hk => ⟨hk.2, ⟨hk.1.1, hk.1.2⟩⟩)), (by (with_reducible repeat (first | apply Kd.R_alloc | apply Kd.b0z | apply Kd.b1z)); exact Kd.c8z HO_6.1 (fun _ hk => ⟨hk.2, ⟨hk.1.1, hk.1.2⟩⟩)), (by (with_reducible repeat (first | refine a6z ?_ _ | refine a7z ?_ | refine blk_alloc ?_ _)); exact BK101.1), (by repeat (first | (with_reducible first | exact HB.1 | apply a3z | apply a0z | apply a2z | refine a4z ?_ GE101.1) | exact HB.1))⟩)
            rintro ⟨v115, v122, v125⟩ w49 ⟨hS_, h0_, h1_, h2_, h3_, h4_⟩
            have n0_ : a1z (Kd.R k82 82 w49 w.heap.size (fun k_ => some k_ ≠ (v125 : Value).ownBlock ∧ some k_ ≠ (v107 : Value).ownBlock ∧ k_ ≠ gb101) v122 y121) := ⟨h0_⟩
            have n1_ : a1z (Kd.R k82 82 w49 w.heap.size (fun k_ => some k_ ≠ (v122 : Value).ownBlock ∧ some k_ ≠ (v107 : Value).ownBlock ∧ k_ ≠ gb101) v125 y124) := ⟨h1_⟩
            have n2_ : a1z (Kd.R k82 82 w49 w.heap.size (fun k_ => some k_ ≠ (v122 : Value).ownBlock ∧ some k_ ≠ (v125 : Value).ownBlock ∧ k_ ≠ gb101) v107 t106) := ⟨h2_⟩
            have n3_ : a1z (w49.heap[gb101]? = some (.cells #[.int .i64 a1_0, .int .i64 a1_1, .int .i64 a1_2] 82 (0, 0))) := ⟨h3_⟩
            have n4_ : a1z (Below w.heap.size w w49) := ⟨h4_⟩
            clear HO_6
            clear BK101
            clear HB
            clear h0_ h1_ h2_ h3_ h4_
            have HO123 := n0_
            have HO126 := n1_
            have HO_6 := n2_
            have BK101 := n3_
            have HB := n4_
            clear n0_ n1_ n2_ n3_ n4_
            have hHeld : w49.cell? ⟨gb101, 0, none⟩ = some (.int .i64 a1_0) ∧ w49.cell? ⟨gb101, 1, none⟩ = some (.int .i64 a1_1) ∧ w49.cell? ⟨gb101, 2, none⟩ = some (.int .i64 a1_2) := hS_
            obtain ⟨Ao51, co51, eo51⟩ := Kd.d2z HO126.1
            (first | subst eo51 | (injection eo51 with f1_ f2_ f3_; have f4_ := f1_.symm; have f5_ := f3_.symm; clear f1_ f2_ f3_; subst f4_; subst f5_))
            refine norm_ (a' := ?_) ?_ ?_
            rotate_left
            ·simp only [putAll, Act.put, sA_, sZ_, sS_]
             rfl
            refine one_ (i := 7) (N := some 50) #[true, true, true, true, true, true, true, true, true, true, true, false, false, false] rfl rfl (e5z HT_.1 (by kernel_rfl)) (by decide) (fun K hK => ?_)
            refine Kd.f8z k82 (w0 := w) w.heap.size (by rfl) (.tmp 47) (.tmp 49) 62 82 (.agg #[(.int .i64 0), (.int .i64 0), (.int .i64 0)]) 24 rfl Try.underlying62 info82 rfl (by decide) (by omega) v122 y121 y124 _ _ _ (fun k_ => some k_ ≠ (v107 : Value).ownBlock ∧ some k_ ≠ (.slice Ao51 y124.length co51 : Value).ownBlock ∧ k_ ≠ gb101) (fun _ => False) rfl rfl ?aO ?aR (fun _ _ h => h) (fun _ h => h.elim) ?aF ?aB ?aS ?aL ?_
            (case aR => repeat (first | exact (Kd.b6z HO126.1).2.2 | (with_reducible refine Kd.C_alloc ?_ _) | (with_reducible refine Kd.C_drewN ?_ _) | (with_reducible refine Kd.C_drew ?_)))
            (case aB => exact (by repeat (first | (with_reducible first | exact HB.1 | apply a3z | apply a0z | apply a2z | refine a4z ?_ GE101.1) | exact HB.1)))
            (case aF => exact (fun k_ hk => ⟨Kd.fresh' (Kd.R_lt (by (with_reducible repeat (first | apply Kd.R_alloc | apply Kd.b0z | apply Kd.b1z)); exact HO_6.1)) k_ hk, Kd.fresh' (Kd.R_lt (by (with_reducible repeat (first | apply Kd.R_alloc | apply Kd.b0z | apply Kd.b1z)); exact HO126.1)) k_ hk, Kd.freshB (g := gb101) (o := .cells #[.int .i64 a1_0, .int .i64 a1_1, .int .i64 a1_2] 82 (0, 0)) (by (with_reducible repeat (first | refine a6z ?_ _ | refine a7z ?_ | refine blk_alloc ?_ _)); exact BK101.1) k_ hk⟩))
            (case aO => exact (by (with_reducible repeat (first | apply Kd.R_alloc | apply Kd.b0z | apply Kd.b1z)); exact Kd.c8z HO123.1 (fun _ hk => ⟨hk.2.1, ⟨hk.1, hk.2.2⟩⟩)))
            (case aS => exact (b4z (by repeat (first | (with_reducible first | exact HB.1 | apply a3z | apply a0z | apply a2z | refine a4z ?_ GE101.1) | exact HB.1))))
            (case aL => have := LMc35.1; omega)
            intro v128 w50 ho hb hg hat
            rw [← Ny127.1] at ho
            have n0_ := a1z.mk (Kd.R_after (ok := (fun k_ => some k_ ≠ (.slice Ao51 y124.length co51 : Value).ownBlock ∧ k_ ≠ gb101)) (by (with_reducible repeat (first | apply Kd.R_alloc | apply Kd.b0z | apply Kd.b1z)); exact Kd.c8z HO_6.1 (fun _ hk => ⟨⟨hk.2.1, hk.2.2⟩, hk.1⟩)) hg hat)
            have n1_ := a1z.mk (g6z (g := gb101) (o := .cells #[.int .i64 a1_0, .int .i64 a1_1, .int .i64 a1_2] 82 (0, 0)) (by (with_reducible repeat (first | refine a6z ?_ _ | refine a7z ?_ | refine blk_alloc ?_ _)); exact BK101.1) hg (Kd.R_away HO123.1 (fun _ hk => hk.2.2)))
            have n2_ := a1z.mk (Kd.R_after (ok := (fun k_ => some k_ ≠ (v107 : Value).ownBlock ∧ k_ ≠ gb101)) (by (with_reducible repeat (first | apply Kd.R_alloc | apply Kd.b0z | apply Kd.b1z)); exact Kd.c8z HO126.1 (fun _ hk => ⟨⟨hk.2.1, hk.2.2⟩, hk.1⟩)) hg hat)
            have n3_ := a1z.mk (hb)
            have n4_ := a1z.mk (ho)
            clear HO_6
            clear BK101
            clear HO126
            clear HB
            clear HO123
            have HO_6 := n0_
            have BK101 := n1_
            have HO126 := n2_
            have HB := n3_
            have HO129 := n4_
            clear n0_ n1_ n2_ n3_ n4_
            clear ho hb hg hat
            refine hK.out _ _ ⟨(a8z BK101.1 0).trans rfl, (a8z BK101.1 1).trans rfl, (a8z BK101.1 2).trans rfl⟩ (fun hHeld => ?_)
            clear hK K
            refine norm_ (a' := ?_) ?_ ?_
            rotate_left
            ·show Act.put _ (some 50) _ = _
             simp only [Act.put, sA_, sZ_, sS_, i64_w, i32_w]
             rfl
            refine one_ (i := 11) (N := some 54) #[true, true, true, true, true, true, true, true, true, true, true, true, false, false] rfl rfl (e5z HT_.1 (by kernel_rfl)) (by decide) (fun K hK => ?_)
            refine Kd.f8z k82 (w0 := w) w.heap.size (by rfl) (.tmp 50) (.tmp 53) 62 82 (.agg #[(.int .i64 0), (.int .i64 0), (.int .i64 0)]) 24 rfl Try.underlying62 info82 rfl (by decide) (by omega) v128 y127 y130 _ _ _ (fun k_ => some k_ ≠ (v107 : Value).ownBlock ∧ some k_ ≠ (.slice Ao51 y124.length co51 : Value).ownBlock ∧ k_ ≠ gb101) (fun _ => False) rfl rfl ?aO ?aR (fun _ _ h => h) (fun _ h => h.elim) ?aF ?aB ?aS ?aL ?_
            (case aR => repeat (first | exact (Kd.f0z HR133.1 HB.1) | (with_reducible refine Kd.C_alloc ?_ _) | (with_reducible refine Kd.C_drewN ?_ _) | (with_reducible refine Kd.C_drew ?_)))
            (case aB => exact (by repeat (first | (with_reducible first | exact HB.1 | apply a3z | apply a0z | apply a2z | refine a4z ?_ GE101.1) | exact HB.1)))
            (case aF => exact (fun k_ hk => ⟨Kd.fresh' (Kd.R_lt (by (with_reducible repeat (first | apply Kd.R_alloc | apply Kd.b0z | apply Kd.b1z)); exact HO_6.1)) k_ hk, Kd.fresh' (Kd.R_lt (by (with_reducible repeat (first | apply Kd.R_alloc | apply Kd.b0z | apply Kd.b1z)); exact HO126.1)) k_ hk, Kd.freshB (g := gb101) (o := .cells #[.int .i64 a1_0, .int .i64 a1_1, .int .i64 a1_2] 82 (0, 0)) (by (with_reducible repeat (first | refine a6z ?_ _ | refine a7z ?_ | refine blk_alloc ?_ _)); exact BK101.1) k_ hk⟩))
            (case aO => exact (by (with_reducible repeat (first | apply Kd.R_alloc | apply Kd.b0z | apply Kd.b1z)); exact HO129.1))
            (case aS => exact (b4z (by repeat (first | (with_reducible first | exact HB.1 | apply a3z | apply a0z | apply a2z | refine a4z ?_ GE101.1) | exact HB.1))))
            (case aL => have := LMc38.1; omega)
            intro v135 w52 ho hb hg hat
            rw [← Ny134.1] at ho
            have n0_ := a1z.mk (Kd.R_after (ok := (fun k_ => some k_ ≠ (.slice Ao51 y124.length co51 : Value).ownBlock ∧ k_ ≠ gb101)) (by (with_reducible repeat (first | apply Kd.R_alloc | apply Kd.b0z | apply Kd.b1z)); exact HO_6.1) hg hat)
            have n1_ := a1z.mk (g6z (g := gb101) (o := .cells #[.int .i64 a1_0, .int .i64 a1_1, .int .i64 a1_2] 82 (0, 0)) (by (with_reducible repeat (first | refine a6z ?_ _ | refine a7z ?_ | refine blk_alloc ?_ _)); exact BK101.1) hg (Kd.R_away HO129.1 (fun _ hk => hk.2.2)))
            have n2_ := a1z.mk (Kd.R_after (ok := (fun k_ => some k_ ≠ (v107 : Value).ownBlock ∧ k_ ≠ gb101)) (by (with_reducible repeat (first | apply Kd.R_alloc | apply Kd.b0z | apply Kd.b1z)); exact HO126.1) hg hat)
            have n3_ := a1z.mk (hb)
            have n4_ := a1z.mk (ho)
            clear HO_6
            clear BK101
            clear HO126
            clear HB
            clear HO129
            have HO_6 := n0_
            have BK101 := n1_
            have HO126 := n2_
            have HB := n3_
            have HO136 := n4_
            clear n0_ n1_ n2_ n3_ n4_
            clear ho hb hg hat
            refine hK.out _ _ ⟨(a8z BK101.1 0).trans rfl, (a8z BK101.1 1).trans rfl, (a8z BK101.1 2).trans rfl⟩ (fun hHeld => ?_)
            clear hK K
            refine norm_ (a' := ?_) ?_ ?_
            rotate_left
            ·show Act.put _ (some 54) _ = _
             simp only [Act.put, sA_, sZ_, sS_, i64_w, i32_w]
             rfl
            refine pure_ (i := 12) (N := some 4) (v := ?_) (a' := ?_) #[true, true, true, true, true, true, true, true, true, true, true, true, true, false] rfl rfl (b3z HT_.1 (by kernel_rfl)) (fun _ _ _ h => h) (Or.inl ⟨by rfl, ?_⟩) ?_ ?_
            rotate_left
            ·intro w'
             go_simp
             with_reducible rfl
            rotate_left
            ·simp only [Act.put, sA_, sZ_, sS_, i64_w, i32_w]
             rfl
            refine pure_ (i := 13) (N := some 5) (v := ?_) (a' := ?_) #[true, true, true, true, true, true, true, true, true, true, true, true, true, true] rfl rfl (b3z HT_.1 (by kernel_rfl)) (fun _ _ _ h => h) (Or.inl ⟨by rfl, ?_⟩) ?_ ?_
            rotate_left
            ·intro w'
             go_simp
             with_reducible rfl
            rotate_left
            ·simp only [Act.put, sA_, sZ_, sS_, i64_w, i32_w]
             rfl
            refine done_ (f6z HT_.1 (by kernel_rfl)) ?_
            try go_wp2
            go_ret2
            exact ⟨_, by first | rfl | (simp [c1z, c0z] <;> rfl) | (simp [*, c1z, c0z] <;> rfl), by (with_reducible repeat (first | apply Kd.R_alloc | apply Kd.b0z | apply Kd.b1z)); exact Kd.c8z HO136.1 (fun _ hk => trivial), by repeat (first | (with_reducible first | exact HB.1 | apply a3z | apply a0z | apply a2z | refine a4z ?_ GE101.1) | exact HB.1)⟩
           ·rw [if_neg c38] at H
            exact absurd H (by simp)
          ·rw [if_neg c35] at H
           exact absurd H (by simp)
         ·rw [if_neg c34] at H
          exact absurd H (by simp)
        ·rw [if_neg c33] at H
         exact absurd H (by simp)
       ·rw [if_neg c32] at H
        exact absurd H (by simp)
 ·replace c4 := Bool.eq_false_iff.mpr c4
  subst c4
  have H1 : (some ((([] : List (S82))), false)) = some (r1, r2) := by rw [if_neg (show ¬ (false = true) by decide)] at H; exact H
  clear H
  have H := H1
  clear H1
  obtain ⟨y103, hy103⟩ : ∃ y_ : List (S82), y_ = (([] : List (S82))) := ⟨_, rfl⟩
  replace H : (some (y103, false)) = some (r1, r2) := by first | (rw [hy103]; with_reducible exact H) | (have H2_ := (Option.bind_some _ _).symm.trans H; rw [hy103]; with_reducible exact H2_) | (have H2_ := (Option.bind_some _ _).symm.trans H; with_reducible exact H2_) | with_reducible exact H | (rw [hy103]; exact H) | exact H
  have Ny103 := a1z.mk hy103
  clear hy103
  simp only [Option.some.injEq, Prod.mk.injEq] at H
  obtain ⟨rfl, rfl⟩ := H
  go_enter Try.func54, Try.ntmps54
  go_wp2_with (first | ((with_reducible refine c9z (N := 3) rfl ?_); refine d0z ?hg (N := 3) ?hd (cs := #[.int .i64 a1_0, .int .i64 a1_1, .int .i64 a1_2]) (t := 82) ?hr ?_; (case hd => rfl); (case hg => rfl); (case hr => first | (go_simp; done) | (go_simp; rfl)); intro gb101 hg w53 hbox hb; have n0_ := a1z.mk (b5z (by repeat (first | (with_reducible first | exact HB.1 | apply a3z | apply a0z | apply a2z) | exact HB.1)) hb); have n1_ := a1z.mk (hbox); have n2_ := a1z.mk ((by rw [hg]; exact (b4z (by repeat (first | (with_reducible first | exact HB.1 | apply a3z | apply a0z | apply a2z) | exact HB.1))) : w.heap.size ≤ gb101)); have n3_ := a1z.mk ((by rw [hg]; exact (b4z (by repeat (first | (with_reducible first | exact HB.1 | apply a3z | apply a0z | apply a2z) | exact HB.1))) : w.heap.size ≤ gb101)); clear HB; have HB := n0_; have BK101 := n1_; have GW101 := n2_; have GE101 := n3_; clear n0_ n1_ n2_ n3_; clear hb hbox hg) | ((with_reducible refine c2z (f := 41) rfl ?_); refine d1z (some 10) rfl rfl Try.func41 (by kernel_rfl) rfl #[.slice A0 l0.length c0] rfl (by (try simp only [List.map_toArray, List.map_cons, List.map_nil]); first | done | rfl | (simp only [List.length_drop, List.length_take]; rfl)) ?_; (with_reducible refine (spec_WaysOk.calls k _ _ l0 false _ ?side1 ?side2 A3.1).mono ?_); (case side1 => repeat (first | exact (Kd.f0z HR0.1 HB.1) | (with_reducible refine Kd.C_alloc ?_ _) | (with_reducible refine Kd.C_drewN ?_ _) | (with_reducible refine Kd.C_drew ?_))); (case side2 => exact HC0.1); rintro e w54 ⟨rfl, hb⟩; refine ⟨_, rfl, ?_⟩; have n0_ := a1z.mk (b7z (g := gb101) (o := .cells #[.int .i64 a1_0, .int .i64 a1_1, .int .i64 a1_2] 82 (0, 0)) (by (with_reducible repeat (first | refine a6z ?_ _ | refine a7z ?_ | refine blk_alloc ?_ _)); exact BK101.1) hb); have n1_ := a1z.mk (b5z (by repeat (first | (with_reducible first | exact HB.1 | apply a3z | apply a0z | apply a2z | refine a4z ?_ GE101.1) | exact HB.1)) hb); clear BK101; clear HB; have BK101 := n0_; have HB := n1_; clear n0_ n1_; (try clear hb); (try clear hb2); (try clear hk); (try clear hi)) | ((with_reducible refine c9z (N := 12) rfl ?_); refine Kd.R_lit k82 _ 82 ?hg (N := 12) ?hd (xs := ([] : List (S82))) (inner := []) (ok := fun _ => True) (okp := fun _ => True) ?hr ?hp (fun _ hk => hk) trivial (Below.refl _ _) (Nat.le_refl _) (by simp) ?_; (case hd => rfl); (case hg => rfl); (case hr => first | (go_simp; done) | (go_simp; rfl)); (case hp => exact (Reps.none _ _)); intro v104 w55 ho56 hb hg_ hnew_; clear hg_ hnew_; (first | rw [← Ny103.1] at ho56 | (simp only [Int.reduceToNat] at ho56; rw [← Ny103.1] at ho56)); have n0_ := a1z.mk (Kd.c7z (Kd.d7z ho56 (g := gb101) (o := .cells #[.int .i64 a1_0, .int .i64 a1_1, .int .i64 a1_2] 82 (0, 0)) (by (with_reducible repeat (first | refine a6z ?_ _ | refine a7z ?_ | refine blk_alloc ?_ _)); exact BK101.1)) (b4z (by repeat (first | (with_reducible first | exact HB.1 | apply a3z | apply a0z | apply a2z | refine a4z ?_ GE101.1) | exact HB.1)))); have n1_ := a1z.mk (b7z (g := gb101) (o := .cells #[.int .i64 a1_0, .int .i64 a1_1, .int .i64 a1_2] 82 (0, 0)) (by (with_reducible repeat (first | refine a6z ?_ _ | refine a7z ?_ | refine blk_alloc ?_ _)); exact BK101.1) hb); have n2_ := a1z.mk (b5z (by repeat (first | (with_reducible first | exact HB.1 | apply a3z | apply a0z | apply a2z | refine a4z ?_ GE101.1) | exact HB.1)) hb); clear BK101; clear HB; have HO105 := n0_; have BK101 := n1_; have HB := n2_; clear n0_ n1_ n2_; clear hb ho56))
  go_ret2
  exact ⟨_, by first | rfl | (simp [c1z, c0z] <;> rfl) | (simp [*, c1z, c0z] <;> rfl), by (with_reducible repeat (first | apply Kd.R_alloc | apply Kd.b0z | apply Kd.b1z)); exact Kd.c8z HO105.1 (fun _ hk => trivial), by repeat (first | (with_reducible first | exact HB.1 | apply a3z | apply a0z | apply a2z | refine a4z ?_ GE101.1) | exact HB.1)⟩
end Go.Proofs.Ytbhgkpfbggkgdaa.Q
