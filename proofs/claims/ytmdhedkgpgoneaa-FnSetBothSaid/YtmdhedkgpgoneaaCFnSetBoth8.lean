/- The law FnSetBoth (part 8 of 8): for every input the call answers true and its arguments read afterwards as before. No condition beyond the row's own. -/
import Derived.Laws.BitsLemmas
import Derived.Test.YtmdhedkgpgoneaaRows
import Derived.WalkKit
import Derived.ProofKit
import Derived.OpenShut
import Derived.ShutString
import Derived.ChangeOld
import Derived.Below
import Derived.SizedLaws
import Derived.Test.YtmdhedkgpgoneaaCFnSetBoth7
namespace Go.Proofs.Ytmdhedkgpgoneaa.Se
set_option linter.unusedSimpArgs false
set_option linter.unusedVariables false
open Go.RowKit Go.Sort Go.Proofs.Ytmdhedkgpgoneaa.Q Go.Proofs.Ytmdhedkgpgoneaa.Pure Go.Proofs.Ytmdhedkgpgoneaa.Si Go.Proofs.YtmdhedkgpgoneaaW.PrintWords Go.Proofs.YtmdhedkgpgoneaaW.PrintLast Go.Proofs.YtmdhedkgpgoneaaW.PrintMore
/-- A span, as the program has it. -/
abbrev S5:=S55
def to5 (s : Sn) : S5:=⟨s.1,s.2⟩
def of5 (s : S5) : Sn:=(s.f0,s.f1)
theorem of5_to5 (s : Sn) : of5 (to5 s) = s:=rfl
theorem rd5_mid (p r : List Sn) (x : Sn) : b0z ((p ++ x :: r).map to5) ((p.length : Nat) : Int) = to5 x:=by
 have h:=mid_get (p.map to5) (to5 x) (r.map to5) z55
 rw [List.length_map] at h
 rw [List.map_append,List.map_cons]
 exact h
theorem rd5_last (p : List Sn) (x : Sn) : b0z ((p ++ [x]).map to5) ((p.length : Nat) : Int) = to5 x:=rd5_mid p [] x
theorem set5_last (p : List Sn) (x y : Sn) : ((p ++ [x]).map to5).set p.length (to5 y) = (p ++ [y]).map to5:=by
 rw [List.map_append,List.map_append,List.set_append_right _ _ (by rw [List.length_map];exact Nat.le_refl _),List.length_map,Nat.sub_self]
 rfl
theorem snoc5 (p : List Sn) (x : Sn) : p.map to5 ++ [to5 x] = (p ++ [x]).map to5:=by rw [List.map_append];rfl
theorem spans_loop : ∀ (R P : List Bl) (acc : List Sn),okB R = true → P.length + R.length ≤ 100000000 → acc.length + R.length ≤ 100000000 → ∀ k,R.length + 1 ≤ k →
  impl_spans.l0 k (acc.map to5) (P ++ R) ((P ++ R).length : Int) (P.length : Int) = some ((acc ++ R.map spn).map to5):=by
 intro R
 induction R with
 | nil =>
  intro P acc _ _ _ k hk
  obtain ⟨k,rfl⟩ : ∃ j,k = j + 1:=⟨k - 1,by omega⟩
  simp only [impl_spans.l0]
  rw [if_neg (by simp),List.map_nil,List.append_nil]
 | cons b R ih =>
  intro P acc hok hl ha k hk
  rw [List.length_cons] at hl ha hk
  obtain ⟨k,rfl⟩ : ∃ j,k = j + 1:=⟨k - 1,by omega⟩
  obtain ⟨b0,b1,b2,b3,_⟩:=bok_iff.1 (i2z.1 hok b List.mem_cons_self)
  simp only [impl_spans.l0]
  rw [g2z,if_pos (by omega),if_pos (by omega),if_pos (by omega),rdB_mid,last_impl b0 (by omega) b2 b3,Option.bind_some,List.length_map,if_pos (by omega),wnat (by omega)]
  have h:=ih (P ++ [b]) (acc ++ [spn b]) (i2z.2 fun x hx => i2z.1 hok x (List.mem_cons_of_mem _ hx)) (by rw [e8z];omega) (by rw [e8z];omega) k (by omega)
  rw [← g8z,e8z,g2z,← snoc5] at h
  refine Eq.trans h ?_
  rw [List.map_cons,List.append_assoc]
  rfl
theorem spans_ev {l : List Bl} (h : okB l = true) (hl : l.length ≤ 100000000) {k : Nat} (hk : l.length + 1 ≤ k) : impl_spans.f k l = some ((l.map spn).map to5):=by
 unfold impl_spans.f
 exact spans_loop l [] [] h (by simpa using hl) (by simpa using hl) k hk
theorem union_loop : ∀ (R P xa : List Sn) (t : Sn),P.length + R.length ≤ 100000000 → xa.length + R.length ≤ 100000000 → (∀ s ∈ R,0 ≤ s.2 ∧ s.2 ≤ 4294967295) → 0 ≤ t.2 → t.2 ≤ 4294967295 → ∀ k,R.length + 1 ≤ k →
  impl_union.l0 k ((xa ++ [t]).map to5) ((P ++ R).map to5) ((P ++ R).length : Int) (P.length : Int) = some ((mrgG xa t R).map to5):=by
 intro R
 induction R with
 | nil =>
  intro P xa t hp ha _ _ _ k hk
  obtain ⟨k,rfl⟩ : ∃ j,k = j + 1:=⟨k - 1,by omega⟩
  simp only [impl_union.l0]
  rw [if_neg (by simp)]
  rfl
 | cons s R ih =>
  intro P xa t hp ha hR t0 t1 k hk
  rw [List.length_cons] at hp ha hk
  obtain ⟨k,rfl⟩ : ∃ j,k = j + 1:=⟨k - 1,by omega⟩
  obtain ⟨s0,s1⟩:=hR s List.mem_cons_self
  have hml : ((P ++ s :: R).map to5).length = P.length + 1 + R.length:=by rw [List.length_map,g2z]
  have hal : ((xa ++ [t]).map to5).length = xa.length + 1:=by rw [List.length_map,e8z]
  have hw : wrap64 (((xa.length + 1 : Nat) : Int) - 1) = (xa.length : Int):=by rw [w64 (by omega) (by omega)];omega
  simp only [impl_union.l0]
  rw [hml,g2z,hal,hw,if_pos (by omega),if_pos (by omega),if_pos (by omega),if_pos (by omega),if_pos (by omega),if_pos (by omega),rd5_mid,rd5_last,Int.toNat_natCast,wnat (by omega)]
  show (if s.1 ≤ wrap64 (t.2 + 1) then impl_union.l0 k (((xa ++ [t]).map to5).set xa.length (to5 (t.1,mx t.2 s.2))) _ _ _ else (if xa.length + 1 < 8796093022208 then impl_union.l0 k ((xa ++ [t]).map to5 ++ [to5 s]) _ _ _ else none)) = _
  rw [w64 (by omega) (by omega),mrgG]
  by_cases hc : s.1 ≤ t.2 + 1
  ·rw [if_pos hc,if_pos hc,set5_last]
   have hm : 0 ≤ mx t.2 s.2 ∧ mx t.2 s.2 ≤ 4294967295:=by unfold mx;split <;> omega
   have h:=ih (P ++ [s]) xa (t.1,mx t.2 s.2) (by rw [e8z];omega) (by omega) (fun u hu => hR u (List.mem_cons_of_mem _ hu)) hm.1 hm.2 k (by omega)
   rw [← g8z,e8z,g2z] at h
   exact h
  ·rw [if_neg hc,if_neg hc,if_pos (by omega),snoc5]
   have h:=ih (P ++ [s]) (xa ++ [t]) s (by rw [e8z];omega) (by rw [e8z];omega) (fun u hu => hR u (List.mem_cons_of_mem _ hu)) s0 s1 k (by omega)
   rw [← g8z P s R,e8z P s,g2z] at h
   exact h
theorem union_all (S : List Sn) (hl : S.length ≤ 100000000) (hS : ∀ s ∈ S,0 ≤ s.2 ∧ s.2 ≤ 4294967295) {k : Nat} (hk : S.length + 1 ≤ k) : impl_union.l0 k [] (S.map to5) (S.length : Int) 0 = some ((mrg S).map to5):=by
 cases S with
 | nil =>
  obtain ⟨k,rfl⟩ : ∃ j,k = j + 1:=⟨k - 1,by omega⟩
  simp only [impl_union.l0]
  rfl
 | cons s R =>
  rw [List.length_cons] at hl hk
  obtain ⟨k,rfl⟩ : ∃ j,k = j + 1:=⟨k - 1,by omega⟩
  obtain ⟨s0,s1⟩:=hS s List.mem_cons_self
  have hml : ((s :: R).map to5).length = 1 + R.length:=by rw [List.length_map,List.length_cons];omega
  have hml' : (s :: R).length = 1 + R.length:=by rw [List.length_cons];omega
  have hz : b0z ((s :: R).map to5) 0 = to5 s:=rfl
  simp only [impl_union.l0]
  rw [hml,hml',if_pos (by omega),if_pos (by omega),if_pos (by omega),if_neg (by simp),hz,if_pos (by simp),w64 (x:=0 + 1) (by omega) (by omega)]
  have h:=union_loop R [s] [] s (by simp;omega) (by simp;omega) (fun u hu => hS u (List.mem_cons_of_mem _ hu)) s0 s1 k (by omega)
  rw [show ([s] ++ R).length = 1 + R.length by simp;omega] at h
  exact h
theorem sort_perm (xs : List S5) : (Un.sortSp xs).Perm xs:=by
 have h:=(Un.sortSp_raw xs).1.2.2
 have hl:=Un.h7z xs
 have e1 : ((Un.sortSp xs).toArray.extract 0 xs.toArray.size).toList = Un.sortSp xs:=by
  rw [List.size_toArray,← hl];simp
 have e2 : (xs.toArray.extract 0 xs.toArray.size).toList = xs:=by simp
 rwa [e1,e2] at h
theorem sort_sorted (xs : List S5) : (Un.sortSp xs).Pairwise fun s t => s.f0 ≤ t.f0:=by
 have h:=(Un.sortSp_raw xs).2
 have hl:=Un.h7z xs
 rw [List.pairwise_iff_getElem]
 intro i j hi hj hij
 have h1:=h i j (Nat.zero_le _) hij (by rw [List.size_toArray,← hl];exact hj)
 rw [Un.ltSp,getElem!_pos _ j (by simpa using hj),getElem!_pos _ i (by simpa using hi)] at h1
 have h2:=of_decide_eq_false h1
 simp only [List.getElem_toArray] at h2
 omega
theorem union_ev {xs : List Sn} (h : ∀ s ∈ xs,Ok s) (hl : xs.length ≤ 100000000) {k : Nat} (hk : xs.length + 1 ≤ k) : impl_union.f k (xs.map to5) = some ((cn xs).map to5):=by
 unfold impl_union.f slices_SortedFunc_span.f
 rw [if_pos (by rw [List.length_map];omega),Option.bind_some]
 have hp:=sort_perm (xs.map to5)
 have hs:=sort_sorted (xs.map to5)
 have hsl:=Un.h7z (xs.map to5)
 rw [List.length_map] at hsl
 generalize Un.sortSp (xs.map to5) = ys at hp hs hsl ⊢
 obtain ⟨zs,rfl⟩ : ∃ zs : List Sn,ys = zs.map to5:=⟨ys.map of5,by rw [List.map_map,show (to5 ∘ of5) = id from rfl,List.map_id]⟩
 have hm : ∀ s,s ∈ zs ↔ s ∈ xs:=fun s => by
  have:=hp.mem_iff (a:=to5 s)
  rw [List.mem_map,List.mem_map] at this
  constructor
  ·intro hz
   obtain ⟨u,hu,e⟩:=this.1 ⟨s,hz,rfl⟩
   rw [← of5_to5 s,← e]
   exact hu
  ·intro hz
   obtain ⟨u,hu,e⟩:=this.2 ⟨s,hz,rfl⟩
   rw [← of5_to5 s,← e]
   exact hu
 have hz : zs.Pairwise fun s t => s.1 ≤ t.1:=(List.pairwise_map.1 hs).imp fun h => h
 rw [List.length_map] at hsl ⊢
 rw [union_all zs (by omega) (fun s hs => by obtain ⟨s0,s1,s2⟩:=h s ((hm s).1 hs);exact ⟨by omega,s2⟩) (by omega)]
 obtain ⟨c1,c2⟩:=mrg_spec (xs:=zs) (fun s hs => h s ((hm s).1 hs)) hz
 rw [cn_of h c1 fun p => by rw [c2];exact memB_congr hm p]
theorem set_loop : ∀ (R P : List Sn) (acc : List Bl),P.length + R.length ≤ 100000000 → (∀ s ∈ R,Ok s) → (acc.length : Int) + wid R ≤ 5000000000 → ∀ k : Nat,R.length + 171798691930 ≤ k →
  impl_set.l0 k acc ((P ++ R).map to5) ((P ++ R).length : Int) (P.length : Int) = some (acc ++ coS R):=by
 intro R
 induction R with
 | nil =>
  intro P acc _ _ _ k hk
  obtain ⟨k,rfl⟩ : ∃ j,k = j + 1:=⟨k - 1,by omega⟩
  simp only [impl_set.l0]
  rw [if_neg (by simp),coS_nil,List.append_nil]
 | cons s R ih =>
  intro P acc hl hR hw k hk
  rw [List.length_cons] at hl hk
  have hN:=NN_eq
  obtain ⟨s0,s1,s2⟩:=hR s List.mem_cons_self
  have hw0 : 0 ≤ wid R:=by
   have h1:=i4z (coS R)
   rw [coS_sum (fun t ht => hR t (List.mem_cons_of_mem _ ht))] at h1
   omega
  rw [wid_cons] at hw
  obtain ⟨k,rfl⟩ : ∃ j,k = j + 1:=⟨k - 1,by omega⟩
  have hml : ((P ++ s :: R).map to5).length = P.length + 1 + R.length:=by rw [List.length_map,g2z]
  have hcl:=cov_len (a:=s.1) (b:=s.2) NN (by omega) (by omega)
  simp only [impl_set.l0]
  rw [hml,g2z,if_pos (by omega),if_pos (by omega),if_pos (by omega),rd5_mid,wnat (by omega)]
  show ((impl_span_blocks.f k s.1 s.2).bind fun t106 => _) = _
  rw [blocks_ev s0 s2 (by omega),Option.bind_some,if_pos (by omega)]
  have h:=ih (P ++ [s]) (acc ++ cov NN s.1 s.2) (by rw [e8z];omega) (fun t ht => hR t (List.mem_cons_of_mem _ ht)) (by rw [List.length_append];push_cast;omega) k (by omega)
  rw [← g8z,e8z,g2z] at h
  rw [h,coS_cons,List.append_assoc]
theorem set_ev {xs : List Sn} (h : ∀ s ∈ xs,Ok s) (hl : xs.length ≤ 100000000) {k : Nat} (hk : 171900000000 ≤ k) : impl_set.f k (xs.map to5) = some (coS (cn xs)):=by
 have hc:=(cn_spec h).1
 have hw:=wid_le hc
 have hcl:=cn_length xs
 unfold impl_set.f
 rw [union_ev h hl (by omega),Option.bind_some,List.length_map]
 exact set_loop (cn xs) [] [] (by simp;omega) hc.1 (by simp;omega) k (by omega)
theorem index_loop : ∀ (R P : List Bl),P.length + R.length ≤ 1000000000 → ∀ k,R.length + 1 ≤ k → ∃ v,slices_IndexFunc_Block.l0 k (P ++ R) ((P ++ R).length : Int) (P.length : Int) = some v ∧ decide (v ≥ 0) = !okB R:=by
 intro R
 induction R with
 | nil =>
  intro P _ k hk
  obtain ⟨k,rfl⟩ : ∃ j,k = j + 1:=⟨k - 1,by omega⟩
  refine ⟨-1,?_,by simp [okB]⟩
  simp only [slices_IndexFunc_Block.l0]
  rw [if_neg (by simp)]
 | cons b R ih =>
  intro P hl k hk
  rw [List.length_cons] at hl hk
  obtain ⟨k,rfl⟩ : ∃ j,k = j + 1:=⟨k - 1,by omega⟩
  simp only [slices_IndexFunc_Block.l0,impl_blocksOk_1.f]
  rw [g2z,if_pos (by omega),if_pos (by omega),if_pos (by omega),rdB_mid,ok_impl,Option.bind_some,Option.bind_some,wnat (by omega)]
  by_cases hb : bok b.f0 b.f1 = true
  ·obtain ⟨v,hv,he⟩:=ih (P ++ [b]) (by rw [e8z];omega) k (by omega)
   rw [← g8z,e8z,g2z] at hv
   refine ⟨v,?_,?_⟩
   ·rw [if_neg (by simp [hb])];exact hv
   ·rw [he];simp [okB,hb]
  ·refine ⟨P.length,?_,?_⟩
   ·rw [if_pos (by simp [hb])]
   ·have : okB (b :: R) = false:=by simp [okB,hb]
    rw [this]
    simp
theorem blocks_impl (l : List Bl) (hl : l.length ≤ 1000000000) {k : Nat} (hk : 100 ≤ k) : impl_blocksOk.f k l = some (okB l && decide (l.length ≤ 64)):=by
 unfold impl_blocksOk.f slices_ContainsFunc_Block.f slices_IndexFunc_Block.f
 by_cases h : l.length ≤ 64
 ·obtain ⟨v,hv,he⟩:=index_loop l [] (by simpa using hl) k (by omega)
  rw [if_pos (by omega)]
  have hv' : slices_IndexFunc_Block.l0 k l (l.length : Int) 0 = some v:=hv
  rw [hv',Option.bind_some,Option.bind_some,he,decide_eq_true h,Bool.not_not,Bool.and_true]
 ·rw [if_neg (by omega),decide_eq_false h,Bool.and_false]
theorem room_impl (l : List Bl) : impl_limited.f l = some (room l):=by
 unfold impl_limited.f room
 by_cases h : l.length ≤ 64
 ·rw [if_neg (by omega),if_pos h]
 ·rw [if_pos (by omega),if_neg h]
theorem equal_ev (a b : List Bl) (hl : a.length ≤ 10000000000) {k : Nat} (hk : a.length + 10 < k) : slices_Equal_Block.f k a b = some (decide (a = b)):=by
 unfold slices_Equal_Block.f
 by_cases h : a.length = b.length
 ·rw [if_pos (by omega),← all_eq a b h]
  have hs:=scan_loop (fun k i => slices_Equal_Block.l0 k a b (a.length : Int) i) a.length 1 (fun i => decide (b6z a (i : Int) = b6z b (i : Int))) false true (fun k i hi _ _ hg => ?_) (fun k i hi _ _ hg => ?_) (fun k _ => ?_) k (by omega)
  ·refine Eq.trans hs ?_
   generalize ((List.range a.length).all fun i => decide (b6z a (i : Int) = b6z b (i : Int))) = q
   cases q <;> rfl
  ·simp only [slices_Equal_Block.l0]
   rw [if_pos (by omega),if_pos (by omega),if_pos (by omega),if_pos (by omega),ne_blk,hg,if_neg (by simp),wnat (by omega)]
  ·simp only [slices_Equal_Block.l0]
   rw [if_pos (by omega),if_pos (by omega),if_pos (by omega),if_pos (by omega),ne_blk,hg,if_pos (by simp)]
  ·simp only [slices_Equal_Block.l0]
   rw [if_neg (by omega)]
 ·rw [if_neg (by omega),decide_eq_false fun e => h (by rw [e])]
theorem i3z (l : List Bl) (hl : l.length ≤ 100000000) {k : Nat} (hk : 171900000000 ≤ k) : impl_SetOk.f k l = some (isSet l):=by
 unfold impl_SetOk.f isSet
 rw [blocks_impl l (by omega) (by omega),Option.bind_some]
 by_cases h : okB l = true
 ·by_cases h2 : l.length ≤ 64
  ·have hcl:=coS_length (ca_can h)
   rw [h,if_pos (by simp [h2]),spans_ev h (by omega) (by omega),Option.bind_some,set_ev (i5z h) (by rw [List.length_map];omega) hk,Option.bind_some,equal_ev _ _ (by unfold ca at hcl;omega) (by unfold ca at hcl;omega),Option.bind_some,decide_eq_true h2,Bool.true_and,Bool.true_and]
   rfl
  ·rw [if_neg (by simp [h2]),decide_eq_false h2]
   simp
 ·rw [if_neg (by simp [h])]
  simp [h]
theorem setOf_impl (l : List Bl) (hl : l.length ≤ 100000000) {k : Nat} (hk : 171900000000 ≤ k) : impl_SetOf.f k l = some (ofB l):=by
 unfold impl_SetOf.f ofB
 rw [blocks_impl l (by omega) (by omega),Option.bind_some]
 by_cases h : okB l = true ∧ l.length ≤ 64
 ·have h2:=h.2
  rw [if_pos (by simp [h.1,h.2]),if_pos h,spans_ev h.1 (by omega) (by omega),Option.bind_some,set_ev (i5z h.1) (by rw [List.length_map];omega) hk,Option.bind_some,room_impl,Option.bind_some]
  rfl
 ·rw [if_neg (by simpa using h),if_neg h]
theorem isize_loop : ∀ (R P : List Bl) (n : Int),P.length + R.length ≤ 1000000 → okB R = true → 0 ≤ n → n + sumB R ≤ 4611686018427387904 → ∀ k,R.length + 50 ≤ k →
  impl_SetSize.l0 k n (P ++ R) ((P ++ R).length : Int) (P.length : Int) = some (n + sumB R):=by
 intro R
 induction R with
 | nil =>
  intro P n _ _ _ _ k hk
  obtain ⟨k,rfl⟩ : ∃ j,k = j + 1:=⟨k - 1,by omega⟩
  simp only [impl_SetSize.l0]
  rw [if_neg (by simp),sumB_nil,Int.add_zero]
 | cons b R ih =>
  intro P n hl hR h0 hn k hk
  rw [List.length_cons] at hl hk
  obtain ⟨k,rfl⟩ : ∃ j,k = j + 1:=⟨k - 1,by omega⟩
  obtain ⟨b0,b1,b2,b3,_⟩:=bok_iff.1 (i2z.1 hR b List.mem_cons_self)
  have hp:=h4z b.f1
  have hs:=i4z R
  rw [sumB_cons] at hn
  simp only [impl_SetSize.l0]
  rw [g2z,if_pos (by omega),if_pos (by omega),if_pos (by omega),rdB_mid,size_impl b2 b3,Option.bind_some,w64 (x:=n + sz b.f1) (by omega) (by omega),wnat (by omega)]
  have h:=ih (P ++ [b]) (n + sz b.f1) (by rw [e8z];omega) (i2z.2 fun x hx => i2z.1 hR x (List.mem_cons_of_mem _ hx)) (by omega) (by omega) k (by omega)
  rw [← g8z,e8z,g2z] at h
  rw [h,sumB_cons]
  congr 1
  omega
theorem setSize_impl (l : List Bl) (hl : l.length ≤ 100000000) {k : Nat} (hk : 171900000000 ≤ k) : impl_SetSize.f k l = some (szB l):=by
 unfold impl_SetSize.f szB
 rw [i3z l hl hk,Option.bind_some]
 by_cases h : isSet l = true
 ·obtain ⟨h1,h2,_⟩:=h8z.1 h
  have hw:=wid_le (ca_can h1)
  have e:=isize_loop l [] 0 (by simp;omega) h1 (by omega) (by rw [sum_set h];omega) k (by omega)
  rw [if_pos h,if_pos h]
  refine Eq.trans e ?_
  rw [Int.zero_add]
 ·rw [if_neg h,if_neg h]
theorem ib_in (x1 : List Bl) (x21 : List S5) (x22 x23 : Int) (ys : List Sn) (hy : ys.length ≤ 1000) (a : Sn) : ∀ (R P acc : List Sn),ys = P ++ R → acc.length + R.length ≤ 1000000 → ∀ k,
  impl_SetBoth.l1 (k + (R.length + 1)) x1 (acc.map to5) x21 x22 x23 (ys.map to5) (ys.length : Int) (P.length : Int) a.1 a.2 = impl_SetBoth.l0 k x1 ((acc ++ meets a R).map to5) x21 x22 (wrap64 (x23 + 1)):=by
 intro R
 induction R with
 | nil =>
  intro P acc hb _ k
  have hyl : ys.length = P.length:=by rw [hb,List.append_nil]
  rw [show k + (([] : List Sn).length + 1) = k + 1 by simp]
  simp only [impl_SetBoth.l1]
  rw [hyl,if_neg (by omega),show meets a [] = [] from rfl,List.append_nil]
 | cons b R ih =>
  intro P acc hb hl k
  rw [List.length_cons] at hl
  have hyl : ys.length = P.length + 1 + R.length:=by rw [hb,g2z]
  have hrb : b0z (ys.map to5) (P.length : Int) = to5 b:=by rw [hb,rd5_mid]
  have hm:=meet_length a b
  rw [show k + ((b :: R).length + 1) = (k + (R.length + 1)) + 1 by rw [List.length_cons];omega]
  have hstep : ∀ k',impl_SetBoth.l1 (k' + 1) x1 (acc.map to5) x21 x22 x23 (ys.map to5) (ys.length : Int) (P.length : Int) a.1 a.2 = impl_SetBoth.l1 k' x1 ((acc ++ meet a b).map to5) x21 x22 x23 (ys.map to5) (ys.length : Int) ((P ++ [b]).length : Int) a.1 a.2:=by
   intro k'
   simp only [impl_SetBoth.l1]
   rw [List.length_map,List.length_map,hyl,if_pos (by omega),if_pos (by omega),if_pos (by omega),hrb,wnat (by omega),e8z]
   show (if hi2 a.1 b.1 ≤ lo2 a.2 b.2 then (if acc.length < 8796093022208 then impl_SetBoth.l1 _ x1 (acc.map to5 ++ [to5 (hi2 a.1 b.1,lo2 a.2 b.2)]) _ _ _ _ _ _ _ _ else none) else impl_SetBoth.l1 _ _ _ _ _ _ _ _ _ _ _) = _
   unfold meet
   by_cases hd : hi2 a.1 b.1 ≤ lo2 a.2 b.2
   ·rw [if_pos hd,if_pos hd,if_pos (by omega),snoc5]
   ·rw [if_neg hd,if_neg hd,List.append_nil]
  rw [hstep,ih (P ++ [b]) (acc ++ meet a b) (by rw [hb,g8z]) (by rw [List.length_append];omega) k]
  rw [show meets a (b :: R) = meet a b ++ meets a R from List.flatMap_cons ..,List.append_assoc]
theorem ib_out {b : List Bl} (hb : okB b = true) (hbl : b.length ≤ 100) (xs : List Sn) (hx : ∀ s ∈ xs,Ok s) : ∀ (R P acc : List Sn),xs = P ++ R → P.length + R.length ≤ 100 → acc.length + 100 * R.length ≤ 100000 → (∀ s ∈ acc,Ok s) → ∀ k,200 * R.length + 171900000001 ≤ k →
  impl_SetBoth.l0 k b (acc.map to5) (xs.map to5) (xs.length : Int) (P.length : Int) = some (room (coS (cn (acc ++ both R (b.map spn))))):=by
 intro R
 induction R with
 | nil =>
  intro P acc ha _ hc hok k hk
  rw [List.length_nil] at hc
  obtain ⟨k,rfl⟩ : ∃ j,k = j + 1:=⟨k - 1,by omega⟩
  simp only [impl_SetBoth.l0]
  rw [if_neg (by rw [ha,List.append_nil];omega),set_ev hok (by omega) (by omega),Option.bind_some,room_impl,Option.bind_some,show both [] (b.map spn) = [] from rfl,List.append_nil]
 | cons a R ih =>
  intro P acc ha hl hc hok k hk
  rw [List.length_cons] at hl hc hk
  have hyl : (b.map spn).length = b.length:=List.length_map ..
  obtain ⟨k,rfl⟩ : ∃ j,k = j + ((b.map spn).length + 1) + 1:=⟨k - ((b.map spn).length + 1) - 1,by omega⟩
  have hxl : xs.length = P.length + 1 + R.length:=by rw [ha,g2z]
  have hm:=meets_length a (b.map spn)
  have hra : b0z (xs.map to5) (P.length : Int) = to5 a:=by rw [ha,rd5_mid]
  simp only [impl_SetBoth.l0]
  rw [List.length_map,hxl,if_pos (by omega),if_pos (by omega),if_pos (by omega),spans_ev hb (by omega) (by omega),Option.bind_some,hra]
  have e:=ib_in b (xs.map to5) ((P.length + 1 + R.length : Nat) : Int) (P.length : Int) (b.map spn) (by omega) a (b.map spn) [] acc rfl (by omega) k
  rw [List.length_map (f:=to5)]
  refine Eq.trans e ?_
  rw [wnat (by omega)]
  have hok' : ∀ s ∈ acc ++ meets a (b.map spn),Ok s:=by
   intro s hs
   rcases List.mem_append.1 hs with hs|hs
   ·exact hok s hs
   ·refine both_ok (xa:=[a]) (bs:=b.map spn) (fun t ht => ?_) s ?_
    ·rw [List.mem_singleton.1 ht]
     exact hx a (by rw [ha];simp)
    ·show s ∈ [a].flatMap _
     simpa using hs
  have h:=ih (P ++ [a]) (acc ++ meets a (b.map spn)) (by rw [ha,g8z]) (by rw [e8z];omega) (by rw [List.length_append];omega) hok' k (by omega)
  rw [e8z,hxl] at h
  rw [h,show both (a :: R) (b.map spn) = meets a (b.map spn) ++ both R (b.map spn) from List.flatMap_cons ..,List.append_assoc]
theorem setBoth_impl (a b : List Bl) (ha : a.length ≤ 100000000) (hb : b.length ≤ 100000000) {k : Nat} (hk : 172000000000 ≤ k) : impl_SetBoth.f k a b = some (dual both a b):=by
 obtain ⟨k,rfl⟩ : ∃ j,k = j + 1:=⟨k - 1,by omega⟩
 unfold impl_SetBoth.f dual
 rw [i3z a ha (by omega),Option.bind_some]
 by_cases h1 : isSet a = true
 ·rw [if_pos h1,i3z b hb (by omega),Option.bind_some]
  simp only [impl_SetBoth.j0]
  by_cases h2 : isSet b = true
  ·obtain ⟨a1,a2,a3⟩:=h8z.1 h1
   obtain ⟨b1,b2,b3⟩:=h8z.1 h2
   rw [if_neg (by simp [h2]),if_pos ⟨h1,h2⟩,spans_ev a1 (by omega) (by omega),Option.bind_some,List.length_map]
   have e:=ib_out b1 (by omega) (a.map spn) (i5z a1) (a.map spn) [] [] rfl (by simp;omega) (by simp;omega) (fun s hs => absurd hs (by simp)) k (by rw [List.length_map];omega)
   refine Eq.trans e ?_
   rw [List.nil_append,cn_both (i5z a1) (i5z b1)]
   rfl
  ·rw [if_pos (by simp [h2]),if_neg (fun h => h2 h.2)]
 ·rw [if_neg h1]
  simp only [impl_SetBoth.j0]
  rw [if_pos trivial,if_neg (fun h => h1 h.1)]
theorem il_in (x1 : List Bl) (x21 : List S5) (x22 x23 : Int) (ys : List Sn) (hy : ys.length ≤ 1000) (hok : ∀ s ∈ ys,Ok s) : ∀ (R P acc : List Sn) (a : Sn),ys = P ++ R → acc.length + R.length ≤ 1000000 → ∀ k,
  impl_SetLess.l1 (k + (2 * R.length + 1)) x1 (acc.map to5) x21 x22 x23 (ys.map to5) (ys.length : Int) (P.length : Int) a.1 a.2 = impl_SetLess.l0 k x1 ((acc ++ cut a R).map to5) x21 x22 (wrap64 (x23 + 1)):=by
 intro R
 induction R with
 | nil =>
  intro P acc a hb hl k
  rw [List.length_nil] at hl
  have hyl : ys.length = P.length:=by rw [hb,List.append_nil]
  rw [show k + (2 * ([] : List Sn).length + 1) = k + 1 by simp]
  simp only [impl_SetLess.l1]
  rw [hyl,if_neg (by omega),List.length_map]
  show (if a.1 ≤ a.2 then (if acc.length < 8796093022208 then impl_SetLess.l0 k x1 (acc.map to5 ++ [to5 a]) _ _ _ else none) else _) = _
  unfold cut
  by_cases h : a.1 ≤ a.2
  ·rw [if_pos h,if_pos h,if_pos (by omega),snoc5]
  ·rw [if_neg h,if_neg h,List.append_nil]
 | cons b R ih =>
  intro P acc a hb hl k
  rw [List.length_cons] at hl
  have hyl : ys.length = P.length + 1 + R.length:=by rw [hb,g2z]
  have hrb : b0z (ys.map to5) (P.length : Int) = to5 b:=by rw [hb,rd5_mid]
  obtain ⟨b0,b1,b2⟩:=hok b (by rw [hb];simp)
  have hj : impl_SetLess.l1 (k + (2 * R.length + 1) + 1 + 1) x1 (acc.map to5) x21 x22 x23 (ys.map to5) (ys.length : Int) (P.length : Int) a.1 a.2 = impl_SetLess.j3 (k + (2 * R.length + 1) + 1) x1 (acc.map to5) x21 x22 x23 (ys.map to5) (ys.length : Int) (P.length : Int) (decide (b.2 < a.1 ∨ b.1 > a.2)) a.1 a.2 b.1 b.2:=by
   simp only [impl_SetLess.l1]
   rw [List.length_map,hyl,if_pos (by omega),if_pos (by omega),if_pos (by omega),hrb]
   show (if b.2 < a.1 then impl_SetLess.j3 _ _ _ _ _ _ _ _ _ true _ _ b.1 b.2 else impl_SetLess.j3 _ _ _ _ _ _ _ _ _ (decide (b.1 > a.2)) _ _ b.1 b.2) = _
   by_cases h : b.2 < a.1
   ·rw [if_pos h,decide_eq_true (Or.inl h)]
   ·rw [if_neg h]
    congr 1
    rw [Bool.eq_iff_iff,decide_eq_true_iff,decide_eq_true_iff]
    omega
  rw [show k + (2 * (b :: R).length + 1) = k + (2 * R.length + 1) + 1 + 1 by rw [List.length_cons];omega,hj]
  simp only [impl_SetLess.j3]
  rw [List.length_map,wnat (by omega),w64 (x:=b.1 - 1) (by omega) (by omega),w64 (x:=b.2 + 1) (by omega) (by omega)]
  have hs : (P ++ [b]).length = P.length + 1:=e8z P b
  unfold cut
  by_cases h : b.2 < a.1 ∨ b.1 > a.2
  ·rw [if_pos (decide_eq_true h),if_pos h]
   have e:=ih (P ++ [b]) acc a (by rw [hb,g8z]) (by omega) k
   rw [hs] at e
   exact e
  ·rw [if_neg (by simpa using h),if_neg h]
   by_cases h2 : a.1 < b.1
   ·rw [if_pos h2,if_pos h2,if_pos (by omega)]
    have e:=ih (P ++ [b]) (acc ++ [(a.1,b.1 - 1)]) (b.2 + 1,a.2) (by rw [hb,g8z]) (by rw [e8z];omega) k
    rw [hs,← snoc5,List.append_assoc] at e
    exact e
   ·rw [if_neg h2,if_neg h2,List.nil_append]
    have e:=ih (P ++ [b]) acc (b.2 + 1,a.2) (by rw [hb,g8z]) (by omega) k
    rw [hs] at e
    exact e
theorem il_out {b : List Bl} (hb : okB b = true) (hbl : b.length ≤ 100) (xs : List Sn) (hx : ∀ s ∈ xs,Ok s) : ∀ (R P acc : List Sn),xs = P ++ R → P.length + R.length ≤ 100 → acc.length + 200 * R.length ≤ 100000 → (∀ s ∈ acc,Ok s) → ∀ k,300 * R.length + 171900000001 ≤ k →
  impl_SetLess.l0 k b (acc.map to5) (xs.map to5) (xs.length : Int) (P.length : Int) = some (room (coS (cn (acc ++ cuts R (ca b))))):=by
 have hcb:=ca_can hb
 have hcl:=ca_length b
 intro R
 induction R with
 | nil =>
  intro P acc ha _ hc hok k hk
  rw [List.length_nil] at hc
  obtain ⟨k,rfl⟩ : ∃ j,k = j + 1:=⟨k - 1,by omega⟩
  simp only [impl_SetLess.l0]
  rw [if_neg (by rw [ha,List.append_nil];omega),set_ev hok (by omega) (by omega),Option.bind_some,room_impl,Option.bind_some,show cuts [] (ca b) = [] from rfl,List.append_nil]
 | cons a R ih =>
  intro P acc ha hl hc hok k hk
  rw [List.length_cons] at hl hc hk
  obtain ⟨k,rfl⟩ : ∃ j,k = j + (2 * (ca b).length + 1) + 1:=⟨k - (2 * (ca b).length + 1) - 1,by omega⟩
  have hxl : xs.length = P.length + 1 + R.length:=by rw [ha,g2z]
  have hm:=cut_length (ca b) a
  have hra : b0z (xs.map to5) (P.length : Int) = to5 a:=by rw [ha,rd5_mid]
  obtain ⟨a0,a1,a2⟩:=hx a (by rw [ha];simp)
  simp only [impl_SetLess.l0]
  rw [List.length_map,hxl,if_pos (by omega),if_pos (by omega),if_pos (by omega),spans_ev hb (by omega) (by omega),Option.bind_some,union_ev (i5z hb) (by rw [List.length_map];omega) (by rw [List.length_map];omega),Option.bind_some,hra]
  have e:=il_in b (xs.map to5) ((P.length + 1 + R.length : Nat) : Int) (P.length : Int) (ca b) (by omega) hcb.1 (ca b) [] acc a rfl (by omega) k
  rw [List.length_map (f:=to5)]
  refine Eq.trans e ?_
  rw [wnat (by omega)]
  have hok' : ∀ s ∈ acc ++ cut a (ca b),Ok s:=by
   intro s hs
   rcases List.mem_append.1 hs with hs|hs
   ·exact hok s hs
   ·exact (cut_spec (ca b) a hcb a0 a2).1 s hs
  have h:=ih (P ++ [a]) (acc ++ cut a (ca b)) (by rw [ha,g8z]) (by rw [e8z];omega) (by rw [List.length_append];omega) hok' k (by omega)
  rw [e8z,hxl] at h
  rw [h,show cuts (a :: R) (ca b) = cut a (ca b) ++ cuts R (ca b) from List.flatMap_cons ..,List.append_assoc]
theorem setLess_impl (a b : List Bl) (ha : a.length ≤ 100000000) (hb : b.length ≤ 100000000) {k : Nat} (hk : 172000000000 ≤ k) : impl_SetLess.f k a b = some (dual less a b):=by
 obtain ⟨k,rfl⟩ : ∃ j,k = j + 1:=⟨k - 1,by omega⟩
 unfold impl_SetLess.f dual
 rw [i3z a ha (by omega),Option.bind_some]
 by_cases h1 : isSet a = true
 ·rw [if_pos h1,i3z b hb (by omega),Option.bind_some]
  simp only [impl_SetLess.j0]
  by_cases h2 : isSet b = true
  ·obtain ⟨a1,a2,a3⟩:=h8z.1 h1
   obtain ⟨b1,b2,b3⟩:=h8z.1 h2
   have hcl:=ca_length a
   rw [if_neg (by simp [h2]),if_pos ⟨h1,h2⟩,spans_ev a1 (by omega) (by omega),Option.bind_some,union_ev (i5z a1) (by rw [List.length_map];omega) (by rw [List.length_map];omega),Option.bind_some,List.length_map]
   have e:=il_out b1 (by omega) (ca a) (ca_can a1).1 (ca a) [] [] rfl (by simp;omega) (by simp;omega) (fun s hs => absurd hs (by simp)) k (by omega)
   refine Eq.trans e ?_
   rw [List.nil_append,cn_cuts (ca_can a1) (ca_can b1)]
  ·rw [if_pos (by simp [h2]),if_neg (fun h => h2 h.2)]
 ·rw [if_neg h1]
  simp only [impl_SetLess.j0]
  rw [if_pos trivial,if_neg (fun h => h1 h.1)]
end Go.Proofs.Ytmdhedkgpgoneaa.Se

namespace Go.Proofs.Ytmdhedkgpgoneaa.Pure
set_option linter.unusedSimpArgs false
open Go.RowKit Go.Proofs.Ytmdhedkgpgoneaa.Q Go.Proofs.Ytmdhedkgpgoneaa.Open Go.Proofs.YtmdhedkgpgoneaaW.PrintWords Go.Proofs.YtmdhedkgpgoneaaW.PrintLast Go.Proofs.YtmdhedkgpgoneaaW.PrintMore
/-- Bytes, at most two thousand of them. -/
def rdOk (xs : List Int) : Prop:=(∀ y ∈ xs,0 ≤ y ∧ y ≤ 255) ∧ xs.length ≤ 2000
theorem fits_u8 {y : Int} (h : Fits .u8 y) : 0 ≤ y ∧ y ≤ 255:=by
 have g : (decide (IntKind.u8.min ≤ y) && decide (y ≤ IntKind.u8.max)) = true:=h
 rw [Bool.and_eq_true,decide_eq_true_eq,decide_eq_true_eq] at g
 exact g
theorem xor_nn {a b : Int} (ha : 0 ≤ a) (ha' : a < 4611686018427387904) (hb : 0 ≤ b) (hb' : b < 4611686018427387904) : 0 ≤ Go.bits .xor .i64 a b:=by
 obtain ⟨m,rfl⟩:=Int.eq_ofNat_of_zero_le ha
 obtain ⟨n,rfl⟩:=Int.eq_ofNat_of_zero_le hb
 have hm : m < 2 ^ 62:=by omega
 have hn : n < 2 ^ 62:=by omega
 have hx : m ^^^ n < 2 ^ 62:=Nat.xor_lt_two_pow hm hn
 simp only [Go.bits,BitVec.ofInt_natCast,BitVec.toNat_xor,BitVec.toNat_ofNat]
 rw [Nat.mod_eq_of_lt (show m < 2 ^ IntKind.i64.bits by show m < 2 ^ 64;omega),Nat.mod_eq_of_lt (show n < 2 ^ IntKind.i64.bits by show n < 2 ^ 64;omega),IntKind.wrap_i64]
 generalize m ^^^ n = z at hx
 omega
theorem rd_byte {xs : List Int} (hx : rdOk xs) (i : Int) : 0 ≤ rd xs i ∧ rd xs i ≤ 255:=by
 show 0 ≤ xs.getD i.toNat 0 ∧ xs.getD i.toNat 0 ≤ 255
 rw [List.getD_eq_getElem?_getD]
 by_cases h : i.toNat < xs.length
 ·rw [List.getElem?_eq_getElem h]
  exact hx.1 _ (List.getElem_mem h)
 ·rw [List.getElem?_eq_none (by omega)]
  decide
theorem tmod_in {a n : Int} (ha : 0 ≤ a) (hn : 1 ≤ n) : 0 ≤ Int.tmod a n ∧ Int.tmod a n < n:=⟨Int.tmod_nonneg _ ha,Int.tmod_lt_of_pos _ (by omega)⟩
theorem i1z {xs : List Int} (hx : rdOk xs) {s n : Int} (hs : 0 ≤ s) (hs' : s ≤ 1000000000) (hn : 1 ≤ n) {k : Nat} (hk : 1 ≤ k) : ∃ v,spec_l1Rd_pick.f k xs s n = some (v,s + 1) ∧ 0 ≤ v ∧ v < n:=by
 obtain ⟨k,rfl⟩ : ∃ m,k = m + 1:=⟨k - 1,by omega⟩
 have hl:=hx.2
 unfold spec_l1Rd_pick.f
 rw [if_neg (by omega),w64 (x:=s + 1) (by omega) (by omega)]
 simp only [spec_l1Rd_pick.j0]
 rw [w64 (x:=s + 1 - 1) (by omega) (by omega),show s + 1 - 1 = s by omega]
 by_cases h0 : xs.length = 0
 ·rw [if_pos (by simp [h0])]
  exact ⟨0,rfl,by omega,by omega⟩
 ·rw [if_neg (by simp;intro h;exact h0 (by rw [h];rfl))]
  by_cases h1 : s < (xs.length : Int)
  ·obtain ⟨g0,g1⟩:=rd_byte hx s
   rw [if_pos h1,if_pos hs,if_neg (by omega),w64 (by omega) (by omega)]
   obtain ⟨t0,t1⟩:=tmod_in g0 hn
   exact ⟨_,rfl,t0,t1⟩
  ·rw [if_neg h1,if_neg (by omega)]
   obtain ⟨i0,i1⟩:=tmod_in (n:=(xs.length : Int)) hs (by omega)
   rw [if_pos i0,if_pos i1,w64 (x:=s * 7) (by omega) (by omega),w64 (x:=s * 7 + 3) (by omega) (by omega)]
   obtain ⟨j0,j1⟩:=tmod_in (a:=s * 7 + 3) (n:=(xs.length : Int)) (by omega) (by omega)
   rw [if_pos j0,if_pos j1,if_neg (by omega)]
   obtain ⟨g0,g1⟩:=rd_byte hx (Int.tmod s (xs.length : Int))
   obtain ⟨f0,f1⟩:=rd_byte hx (Int.tmod (s * 7 + 3) (xs.length : Int))
   have q0 : 0 ≤ Int.tdiv s (xs.length : Int):=Int.tdiv_nonneg hs (by omega)
   have q1 : Int.tdiv s (xs.length : Int) ≤ s:=by
    rw [Int.tdiv_eq_ediv_of_nonneg hs]
    exact Int.ediv_le_self _ hs
   generalize rd xs (Int.tmod s (xs.length : Int)) = g at *
   generalize rd xs (Int.tmod (s * 7 + 3) (xs.length : Int)) = f at *
   generalize Int.tdiv s (xs.length : Int) = q at *
   rw [w64 (x:=g) (by omega) (by omega),w64 (x:=f) (by omega) (by omega),w64 (x:=q) (by omega) (by omega),w64 (x:=g * 131) (by omega) (by omega),w64 (x:=f * 1117) (by omega) (by omega),w64 (x:=s * 29) (by omega) (by omega),w64 (x:=q * 53) (by omega) (by omega),w64 (x:=g * 131 + f * 1117) (by omega) (by omega),w64 (x:=g * 131 + f * 1117 + s * 29) (by omega) (by omega),w64 (x:=g * 131 + f * 1117 + s * 29 + q * 53) (by omega) (by omega)]
   have hA : 0 ≤ g * 131 + f * 1117 + s * 29 + q * 53:=by omega
   have hA' : g * 131 + f * 1117 + s * 29 + q * 53 < 4611686018427387904:=by omega
   generalize g * 131 + f * 1117 + s * 29 + q * 53 = A at hA hA'
   rw [Int.tdiv_eq_ediv_of_nonneg hA,w64 (x:=A / 64) (by omega) (by omega)]
   obtain ⟨t0,t1⟩:=tmod_in (xor_nn hA hA' (b:=A / 64) (by omega) (by omega)) hn
   exact ⟨_,rfl,t0,t1⟩
theorem one_ev {xs : List Int} (hx : rdOk xs) {s : Int} (hs : 0 ≤ s) (hs' : s ≤ 1000000000) (l : List Int) (hl : 1 ≤ l.length) {k : Nat} (hk : 1 ≤ k) : ∃ v,spec_l1Rd_one.f k xs s l = some (v,s + 1) ∧ v ∈ l:=by
 unfold spec_l1Rd_one.f
 obtain ⟨v,e,v0,v1⟩:=i1z hx hs hs' (n:=(l.length : Int)) (by omega) hk
 rw [e,Option.bind_some]
 dsimp only
 rw [if_pos v0,if_pos v1]
 refine ⟨_,rfl,?_⟩
 show l.getD v.toNat 0 ∈ l
 rw [List.getD_eq_getElem?_getD,List.getElem?_eq_getElem (by omega)]
 exact List.getElem_mem _
theorem drAddr_ev {xs : List Int} (hx : rdOk xs) {s : Int} (hs : 0 ≤ s) (hs' : s ≤ 999999990) {k : Nat} (hk : 1 ≤ k) : ∃ a,spec_l12Addr.f k xs s = some (a,s + 6) ∧ 0 ≤ a ∧ a ≤ 4294967295:=by
 unfold spec_l12Addr.f
 obtain ⟨v0,e0,l0,u0⟩:=i1z hx (s:=s) (n:=256) (by omega) (by omega) (by omega) hk
 obtain ⟨v1,e1,l1,u1⟩:=i1z hx (s:=s + 1) (n:=8) (by omega) (by omega) (by omega) hk
 obtain ⟨v2,e2,l2,u2⟩:=i1z hx (s:=s + 1 + 1) (n:=16) (by omega) (by omega) (by omega) hk
 obtain ⟨v3,e3,l3,u3⟩:=i1z hx (s:=s + 1 + 1 + 1) (n:=256) (by omega) (by omega) (by omega) hk
 obtain ⟨v4,e4,l4,u4⟩:=i1z hx (s:=s + 1 + 1 + 1 + 1) (n:=64) (by omega) (by omega) (by omega) hk
 simp only [e0,e1,e2,e3,e4,Option.bind_some]
 rw [w64 (x:=167772160 + v0) (by omega) (by omega),w64 (x:=167772160 + v1) (by omega) (by omega),w64 (x:=167772416 + v2) (by omega) (by omega),w64 (x:=3232235520 + v3) (by omega) (by omega),w64 (x:=v4 * 256) (by omega) (by omega),w64 (x:=2886729728 + v4 * 256) (by omega) (by omega)]
 obtain ⟨v,e,hv⟩:=one_ev hx (s:=s + 1 + 1 + 1 + 1 + 1) (by omega) (by omega) [167772160 + v0,167772160 + v1,167772416 + v2,3232235520 + v3,0,4294967295,184549375,2886729728 + v4 * 256] (by simp) hk
 rw [e,Option.bind_some]
 refine ⟨v,by show some (v,s + 1 + 1 + 1 + 1 + 1 + 1) = _;congr 2;omega,?_⟩
 simp only [List.mem_cons,List.not_mem_nil,or_false] at hv
 omega
theorem over_ev {a b : Int} (h0 : 0 ≤ a) (h1 : a ≤ 4294967295) (h2 : 0 ≤ b) (h3 : b ≤ 32) {k : Nat} (hk : 40 ≤ k) : spec_l1Over.f k a b = some (a / sz b * sz b,b) ∧ bok (a / sz b * sz b) b = true:=by
 have hp:=h4z b
 have hd : sz b * (a / sz b) + a % sz b = a:=Int.mul_ediv_add_emod a (sz b)
 have hr:=Int.emod_nonneg a (show sz b ≠ 0 by omega)
 have hq : 0 ≤ a / sz b:=Int.ediv_nonneg h0 (by omega)
 have hq' : a / sz b ≤ a:=Int.ediv_le_self _ h0
 have hm : 0 ≤ a / sz b * sz b:=Int.mul_nonneg hq (by omega)
 rw [Int.mul_comm] at hd
 constructor
 ·unfold spec_l1Over.f
  rw [size_spec h2 h3 hk,Option.bind_some,if_neg (by omega),Option.bind_some,Int.tdiv_eq_ediv_of_nonneg h0,w64 (x:=a / sz b) (by omega) (by omega),w64 (by omega) (by omega)]
 ·rw [bok_iff]
  exact ⟨hm,by omega,h2,h3,Int.mul_emod_left _ _⟩
theorem drBlock_ev {xs : List Int} (hx : rdOk xs) {s : Int} (hs : 0 ≤ s) (hs' : s ≤ 999999980) {k : Nat} (hk : 40 ≤ k) : ∃ a b,spec_l12Block.f k xs s = some (a,b,s + 7) ∧ bok a b = true:=by
 unfold spec_l12Block.f
 obtain ⟨a,ea,a0,a1⟩:=drAddr_ev hx hs (by omega) (show 1 ≤ k by omega)
 obtain ⟨b,eb,hb⟩:=one_ev hx (s:=s + 6) (by omega) (by omega) [32,31,30,28,24,24,25,16,8,1,0,29] (by simp) (show 1 ≤ k by omega)
 simp only [List.mem_cons,List.not_mem_nil,or_false] at hb
 obtain ⟨eo,ho⟩:=over_ev (b:=b) a0 a1 (by omega) (by omega) hk
 rw [ea,Option.bind_some]
 dsimp only
 rw [eb,Option.bind_some]
 dsimp only
 rw [eo,Option.bind_some]
 exact ⟨_,_,by show some (_,_,s + 6 + 1) = _;congr 3;omega,ho⟩
theorem drAnyBlock_ev {xs : List Int} (hx : rdOk xs) {s : Int} (hs : 0 ≤ s) (hs' : s ≤ 999999970) {k : Nat} (hk : 40 ≤ k) : ∃ a b t,spec_l12AnyBlock.f k xs s = some (a,b,t) ∧ s ≤ t ∧ t ≤ s + 10 ∧ -1 ≤ a ∧ a ≤ 8589934592 ∧ -1 ≤ b ∧ b ≤ 33:=by
 unfold spec_l12AnyBlock.f
 obtain ⟨a,b,eb,hb⟩:=drBlock_ev hx hs (by omega) hk
 obtain ⟨h0,h1,h2,h3,_⟩:=bok_iff.1 hb
 obtain ⟨v,ev,v0,v1⟩:=i1z hx (s:=s + 7) (n:=16) (by omega) (by omega) (by omega) (show 1 ≤ k by omega)
 rw [eb,Option.bind_some]
 dsimp only
 rw [ev,Option.bind_some]
 dsimp only
 by_cases g0 : v = 0
 ·obtain ⟨c,ec,hc⟩:=one_ev hx (s:=s + 7 + 1) (by omega) (by omega) [1,-1,256] (by simp) (show 1 ≤ k by omega)
  simp only [List.mem_cons,List.not_mem_nil,or_false] at hc
  rw [if_pos g0,ec,Option.bind_some]
  exact ⟨_,_,_,rfl,by omega,by omega,by rw [w64 (by dsimp only;omega) (by dsimp only;omega)];dsimp only;omega,by rw [w64 (by dsimp only;omega) (by dsimp only;omega)];dsimp only;omega,by omega,by omega⟩
 ·rw [if_neg g0]
  by_cases g1 : v = 1
  ·obtain ⟨c,ec,hc⟩:=one_ev hx (s:=s + 7 + 1) (by omega) (by omega) [-1,33,0,32] (by simp) (show 1 ≤ k by omega)
   simp only [List.mem_cons,List.not_mem_nil,or_false] at hc
   rw [if_pos g1,ec,Option.bind_some]
   exact ⟨_,_,_,rfl,by omega,by omega,by omega,by omega,by dsimp only;omega,by dsimp only;omega⟩
  ·rw [if_neg g1]
   exact ⟨_,_,_,rfl,by omega,by omega,by omega,by omega,by omega,by omega⟩
theorem open_ev {xs : List Int} (hx : ∀ y ∈ xs,0 ≤ y ∧ y ≤ 255) : ∃ ys,spec_l1Open.f xs = some (ys,0) ∧ rdOk ys:=by
 unfold spec_l1Open.f
 by_cases h : (xs.length : Int) > 2000
 ·rw [if_pos h,if_pos (by omega)]
  exact ⟨_,rfl,fun y hy => hx y (List.mem_of_mem_take hy),by rw [List.length_take];omega⟩
 ·rw [if_neg h]
  exact ⟨_,rfl,hx,by omega⟩
end Go.Proofs.Ytmdhedkgpgoneaa.Pure

namespace Go.Proofs.Ytmdhedkgpgoneaa.Se
set_option linter.unusedSimpArgs false
set_option linter.unusedVariables false
open Go.RowKit Go.Proofs.Ytmdhedkgpgoneaa.Q Go.Proofs.Ytmdhedkgpgoneaa.Pure Go.Proofs.Ytmdhedkgpgoneaa.Si Go.Proofs.YtmdhedkgpgoneaaW.PrintWords Go.Proofs.YtmdhedkgpgoneaaW.PrintLast Go.Proofs.YtmdhedkgpgoneaaW.PrintMore
theorem ov_ev (a b : List Bl) (hl : a.length ≤ 1000000000) {k : Nat} (hk : a.length + 10 < k) : laws_ovBlocks.f k a b = some (decide (a = b)):=by
 unfold laws_ovBlocks.f
 by_cases h : a.length = b.length
 ·rw [if_pos (by omega),← all_eq a b h]
  have hs:=scan_loop (fun k i => laws_ovBlocks.l0 k a b i) a.length 1 (fun i => decide (b6z a (i : Int) = b6z b (i : Int))) false true (fun k i hi _ _ hg => ?_) (fun k i hi _ _ hg => ?_) (fun k _ => ?_) k (by omega)
  ·refine Eq.trans hs ?_
   generalize ((List.range a.length).all fun i => decide (b6z a (i : Int) = b6z b (i : Int))) = q
   cases q <;> rfl
  ·simp only [laws_ovBlocks.l0]
   rw [if_pos (by omega),if_pos (by omega),if_pos (by omega),ne_blk,hg,if_neg (by simp),wnat (by omega)]
  ·simp only [laws_ovBlocks.l0]
   rw [if_pos (by omega),if_pos (by omega),if_pos (by omega),ne_blk,hg,if_pos (by simp)]
  ·simp only [laws_ovBlocks.l0]
   rw [if_neg (by omega)]
 ·rw [if_neg (by omega),decide_eq_false fun e => h (by rw [e])]
theorem ov_same (a : List Bl) (hl : a.length ≤ 1000000000) {k : Nat} (hk : a.length + 10 < k) : laws_ovBlocks.f k a a = some true:=by
 rw [ov_ev a a hl hk,decide_eq_true rfl]
theorem room_len (l : List Bl) : (room l).1.length ≤ 64:=by
 unfold room
 split
 ·assumption
 ·simp
theorem dual_len (f : List Sn → List Sn → List Sn) (a b : List Bl) : (dual f a b).1.length ≤ 64:=by
 unfold dual
 split
 ·exact room_len _
 ·simp
theorem of_len (l : List Bl) : (ofB l).1.length ≤ 64:=by
 unfold ofB
 split
 ·exact room_len _
 ·simp
theorem of_true {l : List Bl} (h : (ofB l).2 = true) : okB l = true ∧ l.length ≤ 64 ∧ (coS (ca l)).length ≤ 64 ∧ (ofB l).1 = coS (ca l):=by
 unfold ofB at h ⊢
 split at h
 ·rename_i hc
  rw [if_pos hc]
  unfold room at h ⊢
  split at h
  ·rename_i hl
   rw [if_pos hl]
   exact ⟨hc.1,hc.2,hl,rfl⟩
  ·exact absurd h (by simp)
 ·exact absurd h (by simp)
theorem dual_true {f : List Sn → List Sn → List Sn} {a b : List Bl} (h : (dual f a b).2 = true) : isSet a = true ∧ isSet b = true ∧ (coS (f (ca a) (ca b))).length ≤ 64 ∧ (dual f a b).1 = coS (f (ca a) (ca b)):=by
 unfold dual at h ⊢
 split at h
 ·rename_i hc
  rw [if_pos hc]
  unfold room at h ⊢
  split at h
  ·rename_i hl
   rw [if_pos hl]
   exact ⟨hc.1,hc.2,hl,rfl⟩
  ·exact absurd h (by simp)
 ·exact absurd h (by simp)
theorem set_can {l : List Bl} (h : isSet l = true) : Si.Can (ca l):=ca_can (h8z.1 h).1
theorem szB_set {l : List Bl} (h : isSet l = true) : szB l = wid (ca l):=by
 unfold szB
 rw [if_pos h,sum_set h]
theorem set_coS {C : List Sn} (h : Si.Can C) (hl : (coS C).length ≤ 64) : isSet (coS C) = true:=by
 rw [isSet_coS h,decide_eq_true hl]
theorem szB_coS {C : List Sn} (h : Si.Can C) (hl : (coS C).length ≤ 64) : szB (coS C) = wid C:=by
 rw [szB_set (set_coS h hl),ca_coS h]
theorem dual_comm (a b : List Bl) : dual both a b = dual both b a:=by
 unfold dual
 by_cases h : isSet a = true ∧ isSet b = true
 ·rw [if_pos h,if_pos ⟨h.2,h.1⟩,both_comm (set_can h.1) (set_can h.2)]
 ·rw [if_neg h,if_neg fun g => h ⟨g.2,g.1⟩]
end Go.Proofs.Ytmdhedkgpgoneaa.Se

namespace Go.Proofs.Ytmdhedkgpgoneaa.Se
set_option linter.unusedSimpArgs false
set_option linter.unusedVariables false
open Go.RowKit Go.Proofs.Ytmdhedkgpgoneaa.Q Go.Proofs.Ytmdhedkgpgoneaa.Pure Go.Proofs.Ytmdhedkgpgoneaa.Open Go.Proofs.Ytmdhedkgpgoneaa.Si Go.Proofs.YtmdhedkgpgoneaaW.PrintWords Go.Proofs.YtmdhedkgpgoneaaW.PrintLast Go.Proofs.YtmdhedkgpgoneaaW.PrintMore
theorem blocks_fill {xs : List Int} (hx : rdOk xs) : ∀ (m : Nat) (l : List Bl) (s : Int) (k : Nat),l.length + m = 65 → 0 ≤ s → s + m + 1 ≤ 1000000000 → m + 2 ≤ k → ∃ l' t,spec_l12Blocks.l1 k l xs s = some (l',t) ∧ s ≤ t ∧ t ≤ s + m + 1 ∧ l'.length ≤ 65:=by
 intro m
 induction m with
 | zero =>
  intro l s k hl hs hs' hk
  obtain ⟨k,rfl⟩ : ∃ q,k = q + 1:=⟨k - 1,by omega⟩
  obtain ⟨v,ev,v0,v1⟩:=i1z hx (s:=s) (n:=2) hs (by omega) (by omega) (show 1 ≤ k by omega)
  simp only [spec_l12Blocks.l1]
  rw [ev,Option.bind_some]
  dsimp only
  rw [w64 (by omega) (by omega),if_neg (by omega)]
  exact ⟨_,_,rfl,by omega,by omega,by omega⟩
 | succ m ih =>
  intro l s k hl hs hs' hk
  obtain ⟨k,rfl⟩ : ∃ q,k = q + 1:=⟨k - 1,by omega⟩
  obtain ⟨v,ev,v0,v1⟩:=i1z hx (s:=s) (n:=2) hs (by omega) (by omega) (show 1 ≤ k by omega)
  simp only [spec_l12Blocks.l1]
  rw [ev,Option.bind_some]
  dsimp only
  rw [w64 (x:=64 + v) (by omega) (by omega)]
  by_cases hc : (l.length : Int) < 64 + v
  ·obtain ⟨l',t,e,t0,t1,g⟩:=ih (l ++ [(⟨wrap64 (2 * (l.length : Int)),32⟩ : Bl)]) (s + 1) k (by rw [e8z];omega) (by omega) (by omega) (by omega)
   rw [if_pos hc,if_pos (by omega),e]
   exact ⟨_,_,rfl,by omega,by omega,g⟩
  ·rw [if_neg hc]
   exact ⟨_,_,rfl,by omega,by omega,by omega⟩
theorem drBlocks_ev {xs : List Int} (hx : rdOk xs) {s : Int} (hs : 0 ≤ s) (hs' : s ≤ 999990000) {k : Nat} (hk : 500 ≤ k) : ∃ l t,spec_l12Blocks.f k xs s = some (l,t) ∧ s ≤ t ∧ t ≤ s + 200 ∧ l.length ≤ 65:=by
 have key : ∀ (n : Nat) (l : List Bl) (u : Int) (k : Nat),0 ≤ u → u + 8 * (n : Int) ≤ 999999000 → l.length + n ≤ 6 → 200 + n ≤ k → ∃ l' t,spec_l12Blocks.l0 k l (n : Int) xs u = some (l',t) ∧ u ≤ t ∧ t ≤ u + 8 * (n : Int) + 70 ∧ l'.length ≤ 65:=by
  intro n
  induction n with
  | zero =>
   intro l u k hu hu' hn hk
   obtain ⟨k,rfl⟩ : ∃ q,k = q + 1:=⟨k - 1,by omega⟩
   simp only [spec_l12Blocks.l0]
   obtain ⟨v,ev,_⟩:=i1z hx (s:=u) (n:=20) (by omega) (by omega) (by omega) (show 1 ≤ k by omega)
   rw [if_neg (by omega),ev,Option.bind_some]
   dsimp only
   by_cases hv : v = 0
   ·rw [if_pos hv]
    obtain ⟨l',t,e,t0,t1,g⟩:=blocks_fill hx (65 - l.length) l (u + 1) k (by omega) (by omega) (by omega) (by omega)
    exact ⟨l',t,e,by omega,by omega,g⟩
   ·rw [if_neg hv]
    exact ⟨l,_,rfl,by omega,by omega,by omega⟩
  | succ n ih =>
   intro l u k hu hu' hn hk
   obtain ⟨k,rfl⟩ : ∃ q,k = q + 1:=⟨k - 1,by omega⟩
   simp only [spec_l12Blocks.l0]
   obtain ⟨b0,b1,eb,_⟩:=drBlock_ev hx (s:=u) (by omega) (by omega) (show 40 ≤ k by omega)
   rw [if_pos (by omega),eb,Option.bind_some]
   dsimp only
   rw [if_pos (by omega),w64 (by omega) (by omega),show ((n + 1 : Nat) : Int) - 1 = (n : Int) by omega]
   obtain ⟨l',t,e,t0,t1,g⟩:=ih (l ++ [(⟨b0,b1⟩ : Bl)]) (u + 7) k (by omega) (by omega) (by rw [e8z];omega) (by omega)
   exact ⟨l',t,e,by omega,by omega,g⟩
 unfold spec_l12Blocks.f
 obtain ⟨v,ev,v0,v1⟩:=i1z hx (s:=s) (n:=6) (by omega) (by omega) (by omega) (show 1 ≤ k by omega)
 obtain ⟨n,rfl⟩:=Int.eq_ofNat_of_zero_le v0
 obtain ⟨l,t,e,t0,t1,h⟩:=key n [] (s + 1) k (by omega) (by omega) (by simp;omega) (by omega)
 rw [ev,Option.bind_some]
 exact ⟨l,t,e,by omega,by omega,h⟩
theorem drSet_ev {xs : List Int} (hx : rdOk xs) {s : Int} (hs : 0 ≤ s) (hs' : s ≤ 999990000) {k : Nat} (hk : 5000000000 ≤ k) : ∃ l t,spec_l12Set.f k xs s = some (l,t) ∧ s ≤ t ∧ t ≤ s + 200 ∧ l.length ≤ 64:=by
 obtain ⟨l,t,e,t0,t1,h⟩:=drBlocks_ev hx hs hs' (show 500 ≤ k by omega)
 unfold spec_l12Set.f
 rw [e,Option.bind_some]
 dsimp only
 rw [setOf_spec l (by omega) hk,Option.bind_some]
 by_cases hc : (ofB l).2 = true
 ·rw [if_pos hc]
  exact ⟨_,_,rfl,t0,t1,of_len l⟩
 ·rw [if_neg hc]
  exact ⟨_,_,rfl,t0,t1,by simp⟩
theorem drAnySet_ev {xs : List Int} (hx : rdOk xs) {s : Int} (hs : 0 ≤ s) (hs' : s ≤ 999980000) {k : Nat} (hk : 5000000000 ≤ k) : ∃ l t,spec_l12AnySet.f k xs s = some (l,t) ∧ s ≤ t ∧ t ≤ s + 300 ∧ l.length ≤ 65:=by
 unfold spec_l12AnySet.f
 obtain ⟨v,ev,v0,v1⟩:=i1z hx (s:=s) (n:=8) (by omega) (by omega) (by omega) (show 1 ≤ k by omega)
 rw [ev,Option.bind_some]
 dsimp only
 by_cases h0 : v = 0
 ·obtain ⟨l,t,e,t0,t1,h⟩:=drBlocks_ev hx (s:=s + 1) (by omega) (by omega) (show 500 ≤ k by omega)
  rw [if_pos h0,e,Option.bind_some]
  exact ⟨l,t,rfl,by omega,by omega,h⟩
 ·obtain ⟨l,t,e,t0,t1,h⟩:=drSet_ev hx (s:=s + 1) (by omega) (by omega) hk
  rw [if_neg h0]
  by_cases h1 : v = 1
  ·obtain ⟨a,b,u,eb,u0,u1,_⟩:=drAnyBlock_ev hx (s:=t) (by omega) (by omega) (show 40 ≤ k by omega)
   rw [if_pos h1,e,Option.bind_some]
   dsimp only
   rw [eb,Option.bind_some]
   dsimp only
   rw [if_pos (by omega)]
   exact ⟨_,u,rfl,by omega,by omega,by rw [e8z];omega⟩
  ·rw [if_neg h1,e,Option.bind_some]
   exact ⟨l,t,rfl,by omega,by omega,by omega⟩
theorem drawSetBoth_ev {ys : List Int} (hf : ∀ y ∈ ys,Fits .u8 y) {k : Nat} (hk : 5000000000 ≤ k) : ∃ a b : List Bl,spec_DrawSetBoth.f k ys = some (a,b) ∧ a.length ≤ 65 ∧ b.length ≤ 65:=by
 obtain ⟨xs,eo,hx⟩:=open_ev (fun y hy => fits_u8 (hf y hy))
 obtain ⟨a,t,ea,t0,t1,ha⟩:=drAnySet_ev hx (s:=0) (by omega) (by omega) hk
 obtain ⟨b,u,eb,u0,u1,hb⟩:=drAnySet_ev hx (s:=t) (by omega) (by omega) hk
 unfold spec_DrawSetBoth.f
 simp only [eo,ea,eb,Option.bind_some]
 exact ⟨_,_,rfl,ha,hb⟩
end Go.Proofs.Ytmdhedkgpgoneaa.Se

namespace Go.Proofs.Ytmdhedkgpgoneaa.Se
set_option linter.unusedSimpArgs false
set_option linter.unusedVariables false
open Go.RowKit Go.Proofs.Ytmdhedkgpgoneaa.Q Go.Proofs.Ytmdhedkgpgoneaa.Pure Go.Proofs.Ytmdhedkgpgoneaa.Open Go.Proofs.Ytmdhedkgpgoneaa.Si Go.Proofs.YtmdhedkgpgoneaaW.PrintWords Go.Proofs.YtmdhedkgpgoneaaW.PrintLast Go.Proofs.YtmdhedkgpgoneaaW.PrintMore
theorem FnSetBoth_j0 {a b : List Bl} (ha : a.length ≤ 65) (hb : b.length ≤ 65) {k : Nat} (hk : 200000000000 ≤ k) : laws_FnSetBoth.j0 (k + 1) a b (dual both a b).1 (dual both a b).2 (dual both a b).1 (dual both a b).2 (dual both a b).1 (dual both a b).2 (!(dual both a b).2) = some true:=by
 have hd:=dual_len both a b
 have hm:=dual_len less a b
 simp only [laws_FnSetBoth.j0]
 by_cases h : (dual both a b).2 = true
 ·obtain ⟨h1,h2,h3,h4⟩:=dual_true h
  have ca1:=set_can h1
  have ca2:=set_can h2
  have cb:=i7z ca1 ca2
  have hok : impl_SetOk.f k (dual both a b).1 = some true:=by rw [i3z _ (by omega) (by omega),h4,set_coS cb h3]
  rw [if_neg (by simp [h]),setLess_impl a b (by omega) (by omega) (by omega),Option.bind_some]
  by_cases g : (dual less a b).2 = true
  ·obtain ⟨_,_,g3,g4⟩:=dual_true g
   have cl:=less_can ca1 ca2
   have w1:=wid_le ca1
   have w2:=wid_le cb
   have w3:=wid_le cl
   have ws:=wid_split ca1 ca2
   have hok2 : impl_SetOk.f k (dual less a b).1 = some true:=by rw [i3z _ (by omega) (by omega),g4,set_coS cl g3]
   have z1 : impl_SetSize.f k (dual both a b).1 = some (wid (both (ca a) (ca b))):=by rw [setSize_impl _ (by omega) (by omega),h4,szB_coS cb h3]
   have z2 : impl_SetSize.f k (dual less a b).1 = some (wid (less (ca a) (ca b))):=by rw [setSize_impl _ (by omega) (by omega),g4,szB_coS cl g3]
   have z3 : impl_SetSize.f k a = some (wid (ca a)):=by rw [setSize_impl _ (by omega) (by omega),szB_set h1]
   have hend : (some (wrap64 (wid (both (ca a) (ca b)) + wid (less (ca a) (ca b))) == wid (ca a)) : Option Bool) = some true:=by
    rw [w64 (by omega) (by omega),ws,beq_self_eq_true]
   rw [if_pos g,Option.bind_some,if_pos (by rw [List.length_nil];omega),Option.bind_some,List.nil_append,if_pos (by omega),setOf_impl _ (by rw [List.length_append];omega) (by omega),Option.bind_some,hok,Option.bind_some,if_pos rfl,hok2,Option.bind_some,if_pos rfl]
   by_cases hq : (ofB ((dual both a b).1 ++ (dual less a b).1)).2 = true
   ·obtain ⟨q1,q2,q3,q4⟩:=of_true hq
    have e : (ofB ((dual both a b).1 ++ (dual less a b).1)).1 = a:=by
     rw [q4,h4,g4,ca_append ca1 ca2]
     exact (h8z.1 h1).2.2
    rw [if_pos hq,e,ov_same _ (by omega) (by omega),Option.bind_some,if_pos rfl,z1,Option.bind_some,z2,Option.bind_some,z3,Option.bind_some]
    exact hend
   ·rw [if_neg hq,z1,Option.bind_some,z2,Option.bind_some,z3,Option.bind_some]
    exact hend
  ·rw [if_neg g,hok,Option.bind_some]
 ·have h' : (dual both a b).2 = false:=by simpa using h
  rw [if_pos (by simp [h']),if_pos (by simp),ov_same _ (by omega) (by omega),Option.bind_some,if_pos rfl,if_pos (by simp),Option.bind_some]
theorem FnSetBoth_law : laws_FnSetBoth.Pure:=by
 intro xs ⟨_,hf⟩
 obtain ⟨k,hk⟩ : ∃ k : Nat,200000000000 ≤ k:=⟨200000000000,Nat.le_refl _⟩
 refine ⟨k + 1,?_⟩
 unfold laws_FnSetBoth.f
 by_cases hl : (xs.length : Int) > 1048576
 ·rw [if_pos hl]
 rw [if_neg hl]
 obtain ⟨a,b,ed,ha,hb⟩:=drawSetBoth_ev hf (k:=k + 1) (by omega)
 rw [ed,Option.bind_some]
 dsimp only
 have hd:=dual_len both a b
 have i0:=setBoth_impl a b (by omega) (by omega) (k:=k + 1) (by omega)
 have s0:=setBoth_spec a b (by omega) (by omega) (k:=k + 1) (by omega)
 have i1:=setBoth_impl b a (by omega) (by omega) (k:=k + 1) (by omega)
 rw [dual_comm b a] at i1
 rw [i0,Option.bind_some,s0,Option.bind_some,i1,Option.bind_some,if_neg (by simp),ov_same _ (by omega) (by omega),Option.bind_some,if_pos rfl,if_neg (by simp),Option.bind_some,if_pos rfl]
 exact FnSetBoth_j0 ha hb hk
end Go.Proofs.Ytmdhedkgpgoneaa.Se
namespace Go.Proofs.Ytmdhedkgpgoneaa.Pure
open Go.Proofs.Ytmdhedkgpgoneaa.Q
theorem FnSetBoth : laws_FnSetBoth.Pure:=Se.FnSetBoth_law
end Go.Proofs.Ytmdhedkgpgoneaa.Pure

namespace Go.Proofs.Ytmdhedkgpgoneaa.fnSetBoth
open Go.ChangeShapes Go.WideShapes Go.ChangeAt Go.RowKit Go.Proofs.YtmdhedkgpgoneaaW.PrintWords Go.Proofs.Ytmdhedkgpgoneaa.Open Go.Proofs.Ytmdhedkgpgoneaa.Q
open Go.ChangeMaps (open_string shut_string)
set_option linter.unusedVariables false
theorem own : ownKnob Try.prog.godebug = none:=by kernel_rfl
theorem laidOut : laidOutB Try.prog = true:=by kernel_rfl
set_option maxRecDepth 100000 in
theorem lifted (os : Os) (started : os.Started) (H : Type) (enc : TypeId × Value → H) :
  ReturnsInHanded {} Try.checked os 11 .any (Rows.fnSetBothSpec.pre6 enc Try.prog Try.f11 Rows.fnSetBothRow.domain false) (Rows.fnSetBothSpec.post enc Try.prog Try.f11 false true false false):=by
 refine returnsInHanded_of_change_sized (C:=Try.checked) own started (by kernel_rfl) Try.func11
  (ChangeSpec.witness6 (enc:=enc) (C:=Try.checked) false ⟨#[],#[.slice none 0 0],[]⟩ 8 (by kernel_rfl) (by kernel_rfl) (by kernel_rfl) (by kernel_rfl)) ?_
 intro W base args ds gs before hval0 hW hcnd hsz0 _
 have hval : ∀ (j : Nat) t v,Try.f11.params[j]? = some t → args[j]? = some v → Value.okWide Try.prog W .any base t v:=hval0
 have hW':=hW
 obtain ⟨p,q,hA0,hV,rfl,hfz,hnd⟩:=hW
 have hA : DataW.TrodAll enc Try.prog W 0 (fun _ => true) true Try.f11.params.toList args.toList ds p:=hA0
 rw [Try.params11] at hA hval
 obtain ⟨v0,vs0,d0,ds0,p0,q0,hargs,rfl,rfl,h0,r0⟩:=trodAll_cons hA
 obtain ⟨rfl,rfl,rfl⟩:=trodAll_nil r0
 obtain rfl : args = #[v0]:=by cases args;simp_all
 obtain ⟨rfl,rfl⟩:=trodVars_none hV
 have lt0 : ∀ x ∈ p0,x.block < W.heap.size:=by obtain ⟨m,hm⟩:=h0;exact DataW.trod_lt m _ _ _ hm
 have k0:=h0
 obtain ⟨x0,K0,w0⟩:=open_arg (op35 W) h0
 obtain ⟨aa0,len0,cap0,rfl⟩:=okWide_slice Try.underlying35 (hval 0 35 v0 rfl rfl)
 obtain ⟨A0,c0,e0,hc0,hr0⟩:=K0
 obtain ⟨rfl,rfl,rfl⟩:=slice_of_cells e0
 obtain ⟨k,hp⟩:=Pure.FnSetBoth x0 w0
 refine (laws_FnSetBoth.calls k _ _ x0 true W hr0 hc0 hp).mono ?_
 rintro e W' ⟨rfl,bel0⟩
 have bel : Below W.heap.size W W':=bel0
 exact ⟨_,rfl,_,_,_,[],_,[],hW',trodAll_mk1 (shut_bool Try.underlying4 _),(trodAll_cons_mk (Below.trod laidOut (by kernel_rfl) (of_decide_eq_true (by kernel_rfl)) k0 bel lt0) trodAll_mk0),rfl,bel.frame _,fun h => by cases h⟩
theorem over : Rows.fnSetBothRow.holds Try.pinned (OpenSpec.ofChange Rows.fnSetBothSpec) :=
 OpenClaim.holds_of_wide 11 Try.f11 rfl rfl rfl rfl rfl rfl rfl ⟨rfl,rfl,rfl,rfl,rfl⟩ rfl rfl rfl rfl rfl (by kernel_rfl) Try.func11 (by kernel_rfl)
  (of_decide_eq_true (by kernel_rfl)) (by unfold Func.isWrapper;first|(rw [if_pos (by decide +kernel)];kernel_rfl)|(rw [if_neg (by decide +kernel)];exact ⟨rfl,rfl⟩))
  (fun os started H enc _ => lifted os started H enc)
theorem proved : Rows.FnSetBothSaid:=over
#print axioms proved
end Go.Proofs.Ytmdhedkgpgoneaa.fnSetBoth
namespace Go.Proofs.Ytmdhedkgpgoneaa
/-- The row, under a short name, for the claim. -/
theorem fnSetBoth_holds : Rows.FnSetBothSaid:=fnSetBoth.proved
end Go.Proofs.Ytmdhedkgpgoneaa
