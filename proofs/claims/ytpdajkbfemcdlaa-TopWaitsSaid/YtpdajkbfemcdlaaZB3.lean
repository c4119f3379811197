import Derived.Test.YtpdajkbfemcdlaaZB2
set_option linter.unusedSimpArgs false
set_option linter.unusedVariables false
set_option maxRecDepth 10000
namespace Go.Proofs.Ytpdajkbfemcdlaa
open Go.Ge
theorem mask32 {n : Int} (h0 : 0 ≤ n) (h1 : n < 4294967296) : bitsV .and .u64 n 4294967295 = n := by
  obtain ⟨n, rfl⟩ := Int.eq_ofNat_of_zero_le h0
  have e : (BitVec.ofInt 64 (n : Int) &&& BitVec.ofInt 64 4294967295).toNat = n := by
    rw [BitVec.toNat_and, BitVec.toNat_ofInt, BitVec.toNat_ofInt]
    have e1 : ((n : Int) % ((2 ^ 64 : Nat) : Int)).toNat = n := by omega
    have e2 : ((4294967295 : Int) % ((2 ^ 64 : Nat) : Int)).toNat = 2 ^ 32 - 1 := by decide
    rw [e1, e2, Nat.and_two_pow_sub_one_eq_mod]
    omega
  show IntKind.u64.wrap ((BitVec.ofInt 64 (n : Int) &&& BitVec.ofInt 64 4294967295).toNat : Int) = n
  rw [e, wrapU64 (by omega) (by omega)]
theorem shr32_0 {n : Int} (h0 : 0 ≤ n) (h1 : n < 4294967296) : n.fdiv (2 ^ min (Int.toNat 32) 64) = 0 := by
  rw [show min (Int.toNat 32) 64 = 32 from rfl, Int.fdiv_eq_ediv_of_nonneg _ (by decide)]; omega
theorem Mul64_ok (n : Int) (h0 : 0 ≤ n) (h1 : n < 4294967296) (h : List HObj) :
    ACalls Try.prog F.bits_Mul64 [.int .u64 1, .int .u64 n] h (fun r h' => r = .tup [.int .u64 0, .int .u64 n] ∧ h' = h) := by
  have m1 : bitsV .and .u64 1 4294967295 = 1 := mask32 (by omega) (by omega)
  have mn := mask32 h0 h1
  have s1 : (1 : Int).fdiv (2 ^ min (Int.toNat 32) 64) = 0 := shr32_0 (by omega) (by omega)
  have s0 : (0 : Int).fdiv (2 ^ min (Int.toNat 32) 64) = 0 := shr32_0 (by omega) (by omega)
  have sn := shr32_0 h0 h1
  have wn : IntKind.u64.wrap n = n := wrapU64 h0 (by omega)
  have m0 : bitsV .and .u64 0 4294967295 = 0 := mask32 (by omega) (by omega)
  have w0 : IntKind.u64.wrap 0 = 0 := rfl
  refine ACalls.of_aw Try.func233 K.bits_Mul64 (by simp [Try.f233]) ?_
  generalize hQ : retQ R.bits_Mul64 _ = Q
  simp only[C.bits_Mul64,go_sem,↓reduceIte,Nat.reduceEqDiff,reduceCtorEq,reduceIte,Int.reduceLE]
  subst hQ
  simp only[R.bits_Mul64,m1,mn,s1,s0,sn,wn,m0,w0,Int.zero_mul,Int.one_mul,Int.mul_zero,Int.add_zero,go_sem,↓reduceIte,Nat.reduceEqDiff,reduceIte]
theorem Mul_ok (n : Int) (h0 : 0 ≤ n) (h1 : n < 4294967296) (h : List HObj) :
    ACalls Try.prog F.bits_Mul [.int .u64 1, .int .u64 n] h (fun r h' => r = .tup [.int .u64 0, .int .u64 n] ∧ h' = h) := by
  refine ACalls.of_aw Try.func218 K.bits_Mul (by simp [Try.f218]) ?_
  generalize hQ : retQ R.bits_Mul _ = Q
  simp only[C.bits_Mul,go_sem,↓reduceIte,Nat.reduceEqDiff,reduceCtorEq,reduceIte]
  refine callG_ok (Mul64_ok n h0 h1 _) (by simp only[go_sem]) ?_
  rintro _ _ ⟨rfl, hhh⟩
  try rw [hhh]
  clear hhh
  simp only[go_sem,↓reduceIte,Nat.reduceEqDiff,Nat.reduceAdd,Nat.reduceLT,reduceIte,Int.reduceLT,Int.reduceAdd]
  subst hQ
  simp only[R.bits_Mul,go_sem,↓reduceIte,Nat.reduceEqDiff,reduceIte]
theorem copyInts {C : CallS} {r : AOpn → AVal} {hp : List HObj} {K : AVal → List HObj → Prop} {x y : AOpn} {id o1 len1 cap1 o2 k cap2 : Nat} {L : List Int} (hx : r x = .ref id o1 len1 cap1) (hy : r y = .ref id o2 k cap2) (hh : hp[id]? = some (.cells (ints .i64 L)))
    (h1 : o1 + len1 ≤ L.length) (h2 : o2 + k ≤ L.length) (hl : len1 ≠ 0) (hk : k ≠ 0)
    (hK : K (.int .i64 ((min k len1 : Nat) : Int)) (hp.set id (.cells (ints .i64 (L.take o1 ++ ((L.drop o2).take k).take (min k len1) ++ L.drop (o1 + min k len1)))))) : hstep C r hp (.copyR 1 x y) K := by
  have hsrc : srcH 1 hp (.ref id o2 k cap2) = some (k, ints .i64 ((L.drop o2).take k)) := by
    simp only[srcH,if_neg hk,hh,Nat.mul_one]
    rw [if_pos (by rw [ints_length]; exact h2), ints_drop, ints_take, ints_rdc]
  simp only[hstep,hx,hy,hsrc]
  refine ⟨?_, fun h => by omega, fun _ _ => ?_⟩
  · intro p hp' c hc
    rw [hsrc] at hp'
    cases hp'
    obtain ⟨n, _, rfl⟩ := List.mem_map.1 hc
    rfl
  · simp only[hh,Nat.mul_one]
    refine ⟨by rw [ints_length]; omega, ?_⟩
    have e : fillV (ints .i64 L) o1 ((ints .i64 ((L.drop o2).take k)).take (min k len1)) = ints .i64 (L.take o1 ++ ((L.drop o2).take k).take (min k len1) ++ L.drop (o1 + min k len1)) := by
      unfold fillV
      rw [ints_take, ints_take, ints_append, ints_length, ints_drop, ints_append]
      congr 3
      simp only[List.length_take,List.length_drop]
      congr 1; omega
    rw [e]; exact hK
theorem rep_fill (z : Int) (n k : Nat) (hk : k ≤ n) (m : Nat) (hm : m ≤ k) (hm2 : k + m ≤ n) :
    (List.replicate k z ++ List.replicate (n - k) 0).take k ++ (((List.replicate k z ++ List.replicate (n - k) (0 : Int)).drop 0).take k).take m ++ (List.replicate k z ++ List.replicate (n - k) 0).drop (k + m) = List.replicate (k + m) z ++ List.replicate (n - (k + m)) 0 := by
  have e1 : (List.replicate k z ++ List.replicate (n - k) (0 : Int)).take k = List.replicate k z := by rw [List.take_left' (by simp)]
  rw [List.drop_zero, e1, List.take_replicate, Nat.min_eq_left hm, List.replicate_append_replicate]
  congr 1
  rw [List.drop_append, List.drop_of_length_le (by simp), List.nil_append, List.length_replicate, List.drop_replicate]
  congr 1; omega
theorem Repeat_ok (o : Own) (z : Int) (n : Nat) (ho : Rdo o) (h0 : 1 ≤ n) (h1 : n ≤ 1048576) (h : List HObj) :
    ACalls Try.prog F.slices_Repeat_int [.lst o (ints .i64 [z]), .int .i64 n] h (fun r h' => r = .lst (.app 1) (ints .i64 (List.replicate n z)) ∧ h' = h) := by
  have wn : IntKind.u64.wrap n = n := wrapU64 (by omega) (by omega)
  have wn2 : IntKind.i64.wrap n = n := wrapI64 (by omega) (by omega)
  have hn0 : ¬(n : Int) < 0 := by omega
  have hn1 : ¬(9223372036854775807 : Int) < n := by omega
  have w1 : IntKind.u64.wrap ((1 : Nat) : Int) = 1 := rfl
  have w1' : IntKind.u64.wrap 1 = 1 := rfl
  have hlz : (ints .i64 [z]).length = 1 := rfl
  refine ACalls.gcn (ACalls.of_aw Try.func200 K.slices_Repeat_int (by simp [Try.f200]) ?_)
  generalize hQ : retQ R.slices_Repeat_int _ = Q
  simp only[C.slices_Repeat_int,go_sem,↓reduceIte,Nat.reduceEqDiff,reduceIte]
  simp (disch:=first|assumption|omega) only[hn0,wn,w1,hlz,go_sem,↓reduceIte,Nat.reduceEqDiff,reduceCtorEq,reduceIte]
  refine callG_ok (Mul_ok n (by omega) (by omega) _) (by simp (disch:=first|assumption|omega) only[go_sem]) ?_
  rintro _ _ ⟨rfl, hhh⟩
  rw [hhh]
  clear hhh
  simp (disch:=first|assumption|omega) only[hn1,wn2,ints_rep,go_sem,↓reduceIte,Nat.reduceEqDiff,Nat.reduceAdd,Nat.reduceLT,reduceIte,Int.reduceLT,Int.reduceAdd]
  refine ⟨by omega, ?_⟩
  refine thaw_ints (k := .i64) (ns := List.replicate n 0) (n := n) (by simp (disch:=first|assumption|omega) only[go_sem,↓reduceIte,reduceIte]) (by simp) ?_
  simp (disch:=first|assumption|omega) only[aops_hop,hstep,srcH,srcW,ints_flat,ints_rdc,hlz,go_sem,↓reduceIte,Nat.reduceEqDiff,reduceCtorEq,reduceIte]
  refine ⟨ints_width _, fun h => by omega, fun _ => ?_⟩
  have hz1 : (ints .i64 [z]).take (min 1 n) = [.int .i64 z] := List.take_of_length_le (by rw [ints_length]; simp; omega)
  have hf := ints_set (k := .i64) (List.replicate n 0) 0 z (by simp; omega)
  simp only[hz1,hf,Nat.mul_one,go_sem]
  have hmin : min 1 n = 1 := by omega
  have hinit : (List.replicate n (0 : Int)).set 0 z = List.replicate 1 z ++ List.replicate (n - 1) 0 := by
    obtain ⟨m, rfl⟩ : ∃ m, n = m + 1 := ⟨n - 1, by omega⟩
    rfl
  refine fun _ => ⟨by simp; omega, ?_⟩
  refine aw_count (fun d S => ∃ (k : Nat), k + d = n ∧ 1 ≤ k ∧ S.env 8 = .int .i64 k ∧ S.env 7 = .ref h.length 0 n n ∧ S.heap = h ++ [.cells (ints .i64 (List.replicate k z ++ List.replicate (n - k) 0))]) (n := n - 1)
    ⟨1, by omega, by omega, by simp only[hmin,go_sem,↓reduceIte,reduceIte]; try rfl, by simp only[go_sem,↓reduceIte,Nat.reduceEqDiff,reduceIte], by simp only[hinit,go_sem]⟩ ?_
  rintro d S ⟨k, hkd, hk1, e8, e7, eh⟩
  have hge : S.heap[h.length]? = some (.cells (ints .i64 (List.replicate k z ++ List.replicate (n - k) 0))) := by rw [eh, hpx_get0]; rfl
  have hll : (List.replicate k z ++ List.replicate (n - k) (0 : Int)).length = n := by simp; omega
  by_cases hlt : (k : Int) < n
  · simp only[e8,e7,hlt,aops_hop,go_sem,↓reduceIte,Nat.reduceEqDiff,reduceIte,Int.reduceLE]
    refine ⟨⟨by omega, by omega⟩, by omega, ?_⟩
    refine copyInts (id := h.length) (o1 := k) (len1 := n - k) (cap1 := n - k) (o2 := 0) (k := k) (cap2 := n) (by simp only[Nat.mul_one,go_sem,↓reduceIte,Nat.reduceEqDiff,reduceIte]) (by simp only[go_sem,↓reduceIte,reduceIte]) hge (by omega) (by omega) (by omega) (by omega) ?_
    rw [rep_fill z n k (by omega) (min k (n - k)) (by omega) (by omega), eh, hpx_set0]
    intro _
    have hw : IntKind.i64.wrap ((k : Int) + ((min k (n - k) : Nat) : Int)) = ((k + min k (n - k) : Nat) : Int) := by rw [wrapI64 (by omega) (by omega)]; omega
    simp only[hw,go_sem]
    exact ⟨n - (k + min k (n - k)), by omega, k + min k (n - k), by omega, by omega, rfl, rfl⟩
  · obtain rfl : k = n := by omega
    simp only[e8,e7,hlt,go_sem,↓reduceIte,Nat.reduceEqDiff,reduceIte]
    refine own_ints' (k := .i64) (ns := List.replicate k z) (rest := []) (cap := k) (id := h.length) (by simp only[List.length_replicate,go_sem,↓reduceIte,reduceIte]) (by rw [List.append_nil]; simp only[hge,go_sem]; simp) (by simp) (by simp) ?_
    rintro hp hhp
    rw [aw_grab]
    simp only[go_sem,↓reduceIte,reduceIte]
    subst hQ
    simp only[R.slices_Repeat_int,go_sem,↓reduceIte,reduceIte]
    rcases hhp with ⟨rfl, _⟩ | ⟨rfl, _⟩
    · exact ⟨_, eh, by simp [AVal.ids, ints_ids]⟩
    · exact ⟨_, by show S.heap.set h.length .dead = _; rw [eh, hpx_set0], by simp [AVal.ids, ints_ids]⟩
end Go.Proofs.Ytpdajkbfemcdlaa
namespace Go.Proofs.Ytpdajkbfemcdlaa
open Go.Ge
open Classical in
noncomputable def stuckN (g : Gr) (n : Nat) : List Nat := (List.range n).filter fun i => decide (Rch g i i)
noncomputable def stuckL (g : Gr) : List Nat := stuckN g g.length
theorem stuckN_succ (g : Gr) (n : Nat) : (Rch g n n → stuckN g (n + 1) = stuckN g n ++ [n]) ∧ (¬Rch g n n → stuckN g (n + 1) = stuckN g n) := by
  unfold stuckN
  rw [List.range_succ, List.filter_append]
  exact ⟨fun h => by simp [h], fun h => by simp [h]⟩
theorem stuckN_length (g : Gr) (n : Nat) : (stuckN g n).length ≤ n := by
  unfold stuckN
  exact Nat.le_trans (List.length_filter_le _ _) (by simp)
theorem mem_stuckL {g : Gr} {k : Nat} : k ∈ stuckL g ↔ k < g.length ∧ Rch g k k := by
  simp [stuckL, stuckN]
structure Gfine (g : Gr) : Prop where
  ok : Gok g
  n64 : g.length ≤ 64
  few : pend g (List.replicate g.length false) ≤ 1099511627776
theorem Gfine.row {g : Gr} (h : Gfine g) (i : Nat) : (nx g i).length ≤ 1099511627776 := by
  by_cases hi : i < g.length
  · exact Nat.le_trans (pend_row hi) h.few
  · simp [nx, List.getD_eq_getElem?_getD, List.getElem?_eq_none (show g.length ≤ i by omega)]
theorem Gfine.rows {g : Gr} (h : Gfine g) : ∀ r ∈ toI g, r.length ≤ 1152921504606846976 := by
  intro r hr
  obtain ⟨i, hi, rfl⟩ := List.getElem_of_mem hr
  rw [toI_get hi, ni_length]
  exact Nat.le_trans (h.row i) (by omega)
theorem Gfine.graphE {g : Gr} (h : Gfine g) : graphE (toI g) = 0 := by
  unfold Go.Proofs.Ytpdajkbfemcdlaa.graphE
  rw [if_neg (by rw [toI_length]; have := h.n64; omega), if_neg]
  rw [List.any_eq_true]
  rintro ⟨r, hr, hb⟩
  obtain ⟨i, hi, rfl⟩ := List.getElem_of_mem hr
  rw [toI_get hi, List.any_eq_true] at hb
  obtain ⟨k, hk, hb⟩ := hb
  obtain ⟨n, hn, rfl⟩ := List.mem_map.1 hk
  have := h.ok i n hn
  simp only[badI,toI_length,Bool.or_eq_true,decide_eq_true_eq] at hb
  omega
theorem Stuck_ok (o : Own) (g : Gr) (xs : List AVal) (ho : Rdo o) (hg : Gfine g) (hx : Each2 RowOk (toI g) xs) (h : List HObj) :
    ACalls Try.prog F.ring_Stuck [.lst o xs] h (fun r h' => (∃ q, r = .tup [.lst q (ints .i64 (ni (stuckL g))), .int .i64 0] ∧ (q = .nil ∧ stuckL g = [] ∨ q = .app 1)) ∧ h' = h) := by
  have lx := hx.length
  rw [toI_length] at lx
  have n64 := hg.n64
  have hE := hg.graphE
  refine ACalls.of_aw Try.func96 K.ring_Stuck (by simp [Try.f96]) ?_
  generalize hQ : retQ R.ring_Stuck _ = Q
  simp (disch:=first|assumption|omega) only[C.ring_Stuck,go_sem,↓reduceIte,reduceCtorEq,reduceIte]
  refine callG_ok (Check_ring_ok o (toI g) xs ho hx hg.rows (by rw [toI_length]; omega) _) (by simp (disch:=first|assumption|omega) only[go_sem]) ?_
  rintro _ _ ⟨rfl, hhh⟩
  rw [hhh, hE]
  clear hhh
  simp (disch:=first|assumption|omega) only[lx,go_sem,↓reduceIte,reduceCtorEq,reduceIte]
  refine aw_count (fun d S => ∃ (i : Nat) (q : Own), i + d = g.length ∧ S.env 14 = .int .i64 i ∧ S.env 13 = .int .i64 g.length ∧ S.env 0 = .lst o xs ∧ S.env 5 = .lst q (ints .i64 (ni (stuckN g i))) ∧ (q = .nil ∧ stuckN g i = [] ∨ q = .app 1) ∧ S.heap = h) (n := g.length)
    ⟨0, .nil, by omega, by simp (disch:=first|assumption|omega) only[go_sem,↓reduceIte,reduceIte], by simp (disch:=first|assumption|omega) only[go_sem,↓reduceIte,Nat.reduceEqDiff,reduceIte], by simp (disch:=first|assumption|omega) only[go_sem,↓reduceIte,reduceCtorEq,reduceIte], by simp (disch:=first|assumption|omega) only[go_sem,↓reduceIte,Nat.reduceEqDiff,reduceIte]; rfl, .inl ⟨rfl, rfl⟩, by simp (disch:=first|assumption|omega) only[go_sem]⟩ ?_
  rintro d S ⟨i, q, hi, e14, e13, e0, e5, hq, eh⟩
  have hsl := stuckN_length g i
  have hs1 := stuckN_succ g i
  by_cases hlt : (i : Int) < g.length
  · have hi1 : i < g.length := by omega
    have hn1 : ∀ l : List Nat, ints .i64 (ni l) ++ [AVal.int .i64 i] = ints .i64 (ni (l ++ [i])) := fun l => by rw [ni_append, ← ints_append]; rfl
    rcases hq with ⟨rfl, hnil⟩ | rfl
    · rw [hnil] at e5 hs1
      simp (disch:=first|assumption|omega) only[e14,e13,e0,hlt,go_sem,↓reduceIte,Nat.reduceEqDiff,reduceCtorEq,reduceIte]
      refine callG_ok (steps_ok o g xs ho hg.ok hx i hi1 (by omega) hg.few _) (by simp (disch:=first|assumption|omega) only[go_sem]) ?_
      rintro _ _ ⟨⟨s, rfl, hs, hsr⟩, hhh⟩
      rw [hhh]
      clear hhh
      have hat := at_bls (s := s) (k := i) (by omega)
      have hbl := bls_length s
      by_cases hr : Rch g i i
      · rw [(hsr i).2 hr] at hat
        simp (disch:=first|assumption|omega) only[e14,e13,e0,e5,eh,hat,hbl,hs,hlt,go_sem,↓reduceIte,Nat.reduceEqDiff,reduceCtorEq,Nat.reduceLeDiff,Nat.reduceLT,reduceIte,Int.reduceLT,Int.reduceMul,Nat.reduceMul]
        exact ⟨rfl, by simp [ni], by simp [ni], d - 1, by omega, i + 1, _, by omega, by simp, by rw [hs1.1 hr, hn1], .inr rfl⟩
      · rw [show s.getD i false = false by rw [← Bool.not_eq_true, hsr i]; exact hr] at hat
        simp (disch:=first|assumption|omega) only[e14,e13,e0,e5,eh,hat,hbl,hs,hlt,go_sem,↓reduceIte,Nat.reduceEqDiff,reduceCtorEq,Nat.reduceLeDiff,Nat.reduceLT,reduceIte,Int.reduceLT]
        exact ⟨d - 1, by omega, i + 1, _, by omega, by simp, by rw [hs1.2 hr], .inl ⟨rfl, hs1.2 hr⟩⟩
    · skip
      simp (disch:=first|assumption|omega) only[e14,e13,e0,hlt,go_sem,↓reduceIte,Nat.reduceEqDiff,reduceCtorEq,reduceIte]
      refine callG_ok (steps_ok o g xs ho hg.ok hx i hi1 (by omega) hg.few _) (by simp (disch:=first|assumption|omega) only[go_sem]) ?_
      rintro _ _ ⟨⟨s, rfl, hs, hsr⟩, hhh⟩
      rw [hhh]
      clear hhh
      have hat := at_bls (s := s) (k := i) (by omega)
      have hbl := bls_length s
      by_cases hr : Rch g i i
      · rw [(hsr i).2 hr] at hat
        simp (disch:=first|assumption|omega) only[e14,e13,e0,e5,eh,hat,hbl,hs,hlt,ni_length,go_sem,↓reduceIte,Nat.reduceEqDiff,reduceCtorEq,Nat.reduceLeDiff,Nat.reduceLT,reduceIte,Int.reduceLT,Int.reduceMul,Nat.reduceMul]
        exact ⟨by omega, by omega, d - 1, by omega, i + 1, _, by omega, by simp, by rw [hs1.1 hr, hn1], .inr rfl⟩
      · rw [show s.getD i false = false by rw [← Bool.not_eq_true, hsr i]; exact hr] at hat
        simp (disch:=first|assumption|omega) only[e14,e13,e0,e5,eh,hat,hbl,hs,hlt,go_sem,↓reduceIte,Nat.reduceEqDiff,reduceCtorEq,Nat.reduceLeDiff,Nat.reduceLT,reduceIte,Int.reduceLT]
        exact ⟨d - 1, by omega, i + 1, _, by omega, by simp, by rw [hs1.2 hr], .inr rfl⟩
  · obtain rfl : i = g.length := by omega
    rcases hq with ⟨rfl, hnil⟩ | rfl
    · simp only[e14,e13,e5,hlt,go_sem,↓reduceIte,Nat.reduceEqDiff,reduceIte]
      subst hQ
      simp only[R.ring_Stuck,go_sem,↓reduceIte,Nat.reduceEqDiff,reduceIte]
      exact ⟨⟨.nil, rfl, .inl ⟨rfl, hnil⟩⟩, eh⟩
    · simp only[e14,e13,e5,hlt,go_sem,↓reduceIte,Nat.reduceEqDiff,reduceIte]
      subst hQ
      simp only[R.ring_Stuck,go_sem,↓reduceIte,Nat.reduceEqDiff,reduceIte]
      exact ⟨⟨.app 1, rfl, .inr rfl⟩, eh⟩
end Go.Proofs.Ytpdajkbfemcdlaa
namespace Go.Proofs.Ytpdajkbfemcdlaa
open Go.Ge
def hitC (t n : Nat) (F : List Int) (k : Nat) : Prop := n = 1 ∧ k = t ∨ 1 < n ∧ F.getD k 0 = (n : Int) - 1
theorem hitB_nil {g : Gr} {t n : Nat} {F : List Int} : hitB g t n F [] = false := by simp [hitB]
theorem hitB_snoc {g : Gr} {t n : Nat} {F : List Int} {l : List Nat} {k : Nat} : (hitC t n F k → hitB g t n F (l ++ [k]) = true) ∧ (¬hitC t n F k → hitB g t n F (l ++ [k]) = hitB g t n F l) := by
  unfold hitB hitC
  constructor
  · intro h
    exact decide_eq_true ⟨k, by simp, h⟩
  · intro h
    have : (∃ k_1 ∈ l ++ [k], n = 1 ∧ k_1 = t ∨ 1 < n ∧ F.getD k_1 0 = (n : Int) - 1) ↔ (∃ k_1 ∈ l, n = 1 ∧ k_1 = t ∨ 1 < n ∧ F.getD k_1 0 = (n : Int) - 1) := by
      constructor
      · rintro ⟨a, ha, hc⟩
        rcases List.mem_append.1 ha with ha | ha
        · exact ⟨a, ha, hc⟩
        · simp at ha; subst ha; exact absurd hc h
      · rintro ⟨a, ha, hc⟩; exact ⟨a, by simp [ha], hc⟩
    by_cases h1 : ∃ k_1 ∈ l, n = 1 ∧ k_1 = t ∨ 1 < n ∧ F.getD k_1 0 = (n : Int) - 1
    · rw [decide_eq_true h1, decide_eq_true (this.2 h1)]
    · rw [decide_eq_false h1, decide_eq_false (fun h => h1 (this.1 h))]
open Classical in
def PartF (g : Gr) (t n : Nat) (F : List Int) (r j : Nat) (now : List Int) : Prop :=
  now.length = g.length ∧ ∀ a, a < g.length → now.getD a 0 = if a < r then (stepF g t n F).getD a 0 else if a = r ∧ F.getD a 0 < 0 ∧ hitB g t n F ((nx g r).take j) = true then (n : Int) else F.getD a 0
theorem PartF.start {g : Gr} {t n : Nat} {F : List Int} (hF : F.length = g.length) : PartF g t n F 0 0 F := by
  refine ⟨hF, fun a _ => ?_⟩
  rw [if_neg (by omega), if_neg (by rw [List.take_zero, hitB_nil]; simp)]
theorem PartF.row {g : Gr} {t n r : Nat} {F now : List Int} (h : PartF g t n F r (nx g r).length now) : PartF g t n F (r + 1) 0 now := by
  refine ⟨h.1, fun a ha => ?_⟩
  rw [h.2 a ha, List.take_length]
  rw [if_neg (c := a = r + 1 ∧ _ ∧ _) (by rw [List.take_zero, hitB_nil]; simp)]
  by_cases e : a = r
  · subst e
    rw [if_neg (Nat.lt_irrefl a), if_pos (Nat.lt_succ_self a), stepF_get ha]
    simp
  · by_cases hl : a < r
    · rw [if_pos hl, if_pos (by omega)]
    · rw [if_neg hl, if_neg (fun h => e h.1), if_neg (by omega)]
theorem PartF.skip {g : Gr} {t n r j : Nat} {F now : List Int} (h : PartF g t n F r j now) (hj : j < (nx g r).length) (hn : ¬F.getD r 0 < 0 ∨ ¬hitC t n F (nx g r)[j]) : PartF g t n F r (j + 1) now := by
  refine ⟨h.1, fun a ha => ?_⟩
  rw [h.2 a ha, List.take_add_one, List.getElem?_eq_getElem hj]
  rcases hn with hn | hn
  · by_cases e : a = r
    · subst e
      rw [if_neg (c := a = a ∧ _ ∧ _) (fun h => hn h.2.1), if_neg (c := a = a ∧ _ ∧ _) (fun h => hn h.2.1)]
    · rw [if_neg (c := a = r ∧ _ ∧ _) (fun h => e h.1), if_neg (c := a = r ∧ _ ∧ _) (fun h => e h.1)]
  · rw [Option.toList_some, hitB_snoc.2 hn]
theorem PartF.hit {g : Gr} {t n r j : Nat} {F now : List Int} (h : PartF g t n F r j now) (hr : r < g.length) (hj : j < (nx g r).length) (hf : F.getD r 0 < 0) (hc : hitC t n F (nx g r)[j]) : PartF g t n F r (j + 1) (now.set r n) := by
  refine ⟨by rw [List.length_set]; exact h.1, fun a ha => ?_⟩
  have hl := h.1
  rw [List.take_add_one, List.getElem?_eq_getElem hj, Option.toList_some, hitB_snoc.1 hc]
  by_cases e : a = r
  · subst e
    rw [if_neg (Nat.lt_irrefl a), if_pos ⟨rfl, hf, rfl⟩, List.getD_eq_getElem?_getD, List.getElem?_set_self (by omega)]; rfl
  · have h2 := h.2 a ha
    rw [List.getD_eq_getElem?_getD] at h2
    rw [List.getD_eq_getElem?_getD, List.getElem?_set_ne (fun h => e h.symm), h2]
    by_cases hla : a < r
    · rw [if_pos hla, if_pos hla]
    · rw [if_neg hla, if_neg hla, if_neg (fun h => e h.1), if_neg (fun h => e h.1)]
theorem PartF.done {g : Gr} {t n : Nat} {F now : List Int} (h : PartF g t n F g.length 0 now) : now = stepF g t n F := by
  apply List.ext_getElem
  · rw [h.1]; simp [stepF]
  · intro a h1 h2
    have ha : a < g.length := by rw [← h.1]; exact h1
    have := h.2 a ha
    rw [if_pos ha, List.getD_eq_getElem?_getD, List.getD_eq_getElem?_getD, List.getElem?_eq_getElem h1, List.getElem?_eq_getElem h2] at this
    simpa using this
theorem bestN_snoc {F : List Int} {d : Int} (k : Nat) : ∀ (l : List Nat) (b : Int), bestN F d (l ++ [k]) b = if F.getD k 0 = d ∧ (bestN F d l b < 0 ∨ (k : Int) < bestN F d l b) then (k : Int) else bestN F d l b
  | [], b => by simp [bestN]
  | x :: l, b => by rw [List.cons_append, bestN, bestN_snoc k l, bestN]
theorem best_ok {g : Gr} (hg : Gok g) {t n : Nat} {F : List Int} (hF : FarOk g t n F) {d i : Nat} (hdn : d + 2 ≤ n) (h : Ld g t (d + 2) i) : ∃ m : Nat, bestN F ((d : Int) + 1) (nx g i) (-1) = m ∧ m ∈ nx g i ∧ Ld g t (d + 1) m := by
  obtain ⟨k, hk, hkd⟩ := h.next
  rcases bestN_spec (F := F) (d := (d : Int) + 1) (nx g i) (-1) (.inl rfl) with ⟨_, _, h3⟩ | ⟨m, h1, h2, _, h4⟩
  · refine absurd ?_ (h3 k hk)
    rcases hF.2 k (hg i k hk) with ⟨_, e⟩ | ⟨d', e, _, hd'⟩
    · exact absurd hkd.1 (e _ (by omega))
    · rw [e, ← hkd.uniq hd']; omega
  · have h2 : m ∈ nx g i ∧ F.getD m 0 = (d : Int) + 1 := h2.elim (fun e => by omega) id
    refine ⟨m, h1, h2.1, ?_⟩
    rcases hF.2 m (hg i m h2.1) with ⟨e, _⟩ | ⟨d', e, _, hd'⟩
    · omega
    · obtain rfl : d' = d + 1 := by omega
      exact hd'
theorem FarOk.at {g : Gr} {t n d i : Nat} {F : List Int} (h : FarOk g t n F) (hi : i < g.length) (hd : Ld g t d i) : (d ≤ n → F.getD i 0 = d) ∧ (n < d → F.getD i 0 = -1) := by
  rcases h.2 i hi with ⟨e, hn⟩ | ⟨d', e, hd', hl⟩
  · exact ⟨fun hdn => absurd hd.1 (hn d hdn), fun _ => e⟩
  · have := hl.uniq hd
    subst this
    exact ⟨fun _ => e, fun h => by omega⟩
theorem shortest_ok (o : Own) (g : Gr) (xs : List AVal) (ho : Rdo o) (hg : Gfine g) (hx : Each2 RowOk (toI g) xs) (i : Nat) (hi : i < g.length) (hr : Rch g i i) (h : List HObj) :
    ACalls Try.prog F.ring_shortest [.lst o xs, .int .i64 i] h (fun r h' => (∃ d F, Ld g i d i ∧ FarOk g i d F ∧ r = .lst (.app 1) (ints .i64 (ni (wayF g F d i)))) ∧ h' = h) := by
  have lx := hx.length
  rw [toI_length] at lx
  have n64 := hg.n64
  obtain ⟨D, hD⟩ := hr.ld
  have hDs := hD.short
  have hD1 := hD.1.pos
  refine ACalls.gcn (ACalls.of_aw Try.func170 K.ring_shortest (by simp [Try.f170]) ?_)
  generalize hQ : retQ R.ring_shortest _ = Q
  simp (disch:=first|assumption|omega) only[C.ring_shortest,go_sem,↓reduceIte,Nat.reduceEqDiff,reduceCtorEq,Nat.reduceLeDiff,reduceIte,Int.reduceMul,Int.reduceNeg,Nat.reduceMul]
  simp (disch:=first|assumption|omega) only[lx,go_sem,Int.reduceNeg]
  refine callG_ok (Repeat_ok .sh (-1) g.length (.inl rfl) (by omega) (by omega) _) (by simp (disch:=first|assumption|omega) only[go_sem,Int.reduceNeg]; try rfl) ?_
  rintro _ _ ⟨rfl, hhh⟩
  rw [hhh]
  clear hhh
  simp (disch:=first|assumption|omega) only[go_sem,↓reduceIte,reduceIte,Int.reduceNeg]
  refine aw_count (fun d S => ∃ (n : Nat) (F : List Int) (ext : List HObj), n + d = D + 1 ∧ 1 ≤ n ∧ S.env 6 = .int .i64 n ∧ S.env 5 = .lst .sh (ints .i64 F) ∧ FarOk g i (n - 1) F ∧ S.env 0 = .lst o xs ∧ S.env 1 = .int .i64 i ∧ S.heap = h ++ ext) (n := D)
    ⟨1, List.replicate g.length (-1), [], by omega, by omega, by simp (disch:=first|assumption|omega) only[go_sem,↓reduceIte,reduceIte,Int.reduceNeg]; rfl, by simp (disch:=first|assumption|omega) only[go_sem,↓reduceIte,Nat.reduceEqDiff,reduceIte,Int.reduceNeg], FarOk.start g i, by simp (disch:=first|assumption|omega) only[go_sem,↓reduceIte,reduceCtorEq,reduceIte,Int.reduceNeg], by simp (disch:=first|assumption|omega) only[go_sem,↓reduceIte,Nat.reduceEqDiff,reduceIte,Int.reduceNeg], by simp (disch:=first|assumption|omega) only[go_sem,Int.reduceNeg]⟩ ?_
  rintro d S ⟨n, F, ext, hnd, hn1, e6, e5, hF, e0, e1, eh⟩
  have hFl := hF.1
  have hFi := hF.at hi hD
  have hati : at_ (ints .i64 F) (i : Int) = .int .i64 (F.getD i 0) := at_ints' F i (by omega)
  have hil : (i : Int) < F.length := by omega
  by_cases hnD : n ≤ D
  · have hneg : F.getD i 0 < 0 := by rw [hFi.2 (by omega)]; omega
    simp (disch:=first|assumption|omega) only[e5,e1,hati,hil,hneg,go_sem,↓reduceIte,Nat.reduceEqDiff,Nat.reduceLeDiff,Nat.reduceLT,reduceIte,Int.reduceLT,Int.reduceNeg]
    obtain ⟨H, hH⟩ : ∃ H, H = h ++ ext := ⟨_, rfl⟩
    rw [← hH] at eh
    refine callG_ok (CloneIntU_ok .sh F ⟨.inl rfl, fun e => by cases e⟩ (by omega) _) (by simp (disch:=first|assumption|omega) only[go_sem]) ?_
    rintro _ _ ⟨hcl, hhh⟩
    rw [hhh]
    clear hhh
    rcases hcl with ⟨_, hcl⟩ | ⟨c, rfl, hc⟩
    · rw [hcl] at hFl; simp at hFl; omega
    simp (disch:=first|assumption|omega) only[go_sem,↓reduceIte,reduceIte,Int.reduceNeg]
    refine thaw_ints' (k := .i64) (ns := F) (cap := c) (by simp (disch:=first|assumption|omega) only[go_sem,↓reduceIte,reduceIte]) hc ?_
    have hid : S.heap.length = H.length := by rw [eh]
    simp (disch:=first|assumption|omega) only[e0,lx,go_sem,↓reduceIte,reduceCtorEq,reduceIte,Int.reduceNeg]
    have hn0 : n - 1 + 1 = n := by omega
    refine aw_count (fun d' S' => ∃ (r : Nat) (now : List Int), r + d' = g.length ∧ S'.env 33 = .int .i64 r ∧ S'.env 32 = .int .i64 g.length ∧ S'.env 31 = .lst o xs ∧ S'.env 7 = .ref H.length 0 F.length c ∧ S'.env 6 = .int .i64 n ∧ S'.env 5 = .lst .sh (ints .i64 F) ∧ S'.env 0 = .lst o xs ∧ S'.env 1 = .int .i64 i ∧ PartF g i n F r 0 now ∧ S'.heap = H ++ [.cells (ints .i64 now ++ List.replicate (c - F.length) .junk)]) (n := g.length)
      ⟨0, F, by omega, by simp (disch:=first|assumption|omega) only[go_sem,↓reduceIte,reduceIte], by simp (disch:=first|assumption|omega) only[go_sem,↓reduceIte,Nat.reduceEqDiff,reduceIte], by simp (disch:=first|assumption|omega) only[go_sem,↓reduceIte,Nat.reduceEqDiff,reduceIte], by simp (disch:=first|assumption|omega) only[hid,go_sem,↓reduceIte,Nat.reduceEqDiff,reduceIte], by simp (disch:=first|assumption|omega) only[e6,go_sem,↓reduceIte,Nat.reduceEqDiff,reduceIte], by simp (disch:=first|assumption|omega) only[e5,go_sem,↓reduceIte,Nat.reduceEqDiff,reduceIte], by simp (disch:=first|assumption|omega) only[e0,go_sem,↓reduceIte,reduceCtorEq,reduceIte], by simp (disch:=first|assumption|omega) only[e1,go_sem,↓reduceIte,Nat.reduceEqDiff,reduceIte], PartF.start hFl, by simp (disch:=first|assumption|omega) only[eh,go_sem]⟩ ?_
    clear e6 e5 e0 e1 eh hid
    rintro d' S' ⟨r, now, hrd, e33, e32, e31, e7, e6, e5, e0, e1, hP, eh⟩
    have hge : S'.heap[H.length]? = some (.cells (ints .i64 now ++ List.replicate (c - F.length) .junk)) := by rw [eh, hpx_get0]; rfl
    have hnl := hP.1
    by_cases hrl : (r : Int) < g.length
    · have hr1 : r < g.length := by omega
      have hr2 : r < (toI g).length := by rw [toI_length]; exact hr1
      have hr3 : (r : Int) < xs.length := by omega
      have hr4 : r < xs.length := by omega
      obtain ⟨q, hq, hxr⟩ := hx.at r hr2
      rw [toI_get hr2] at hq hxr
      have hq1 := hq.1
      have hrow := hg.row r
      simp (disch:=first|assumption|omega) only[e33,e32,e31,hrl,hr3,hxr,ni_length,go_sem,↓reduceIte,Nat.reduceEqDiff,Nat.reduceLeDiff,Nat.reduceLT,reduceIte,Int.reduceLT,Int.reduceNeg]
      refine aw_count (fun d'' S' => ∃ (j : Nat) (now : List Int), j + d'' = (nx g r).length ∧ S'.env 40 = .int .i64 j ∧ S'.env 39 = .int .i64 (nx g r).length ∧ S'.env 38 = .lst q (ints .i64 (ni (nx g r))) ∧ S'.env 8 = .int .i64 r ∧ S'.env 33 = .int .i64 r ∧ S'.env 32 = .int .i64 g.length ∧ S'.env 31 = .lst o xs ∧ S'.env 7 = .ref H.length 0 F.length c ∧ S'.env 6 = .int .i64 n ∧ S'.env 5 = .lst .sh (ints .i64 F) ∧ S'.env 0 = .lst o xs ∧ S'.env 1 = .int .i64 i ∧ PartF g i n F r j now ∧ S'.heap = H ++ [.cells (ints .i64 now ++ List.replicate (c - F.length) .junk)]) (n := (nx g r).length)
        ⟨0, now, by omega, by simp (disch:=first|assumption|omega) only[go_sem,↓reduceIte,reduceIte], by simp (disch:=first|assumption|omega) only[go_sem,↓reduceIte,Nat.reduceEqDiff,reduceIte], by simp (disch:=first|assumption|omega) only[go_sem,↓reduceIte,Nat.reduceEqDiff,reduceIte], by simp (disch:=first|assumption|omega) only[go_sem,↓reduceIte,Nat.reduceEqDiff,reduceIte], by simp (disch:=first|assumption|omega) only[e33,go_sem,↓reduceIte,Nat.reduceEqDiff,reduceIte], by simp (disch:=first|assumption|omega) only[e32,go_sem,↓reduceIte,Nat.reduceEqDiff,reduceIte], by simp (disch:=first|assumption|omega) only[e31,go_sem,↓reduceIte,Nat.reduceEqDiff,reduceIte], by simp (disch:=first|assumption|omega) only[e7,go_sem,↓reduceIte,Nat.reduceEqDiff,reduceIte], by simp (disch:=first|assumption|omega) only[e6,go_sem,↓reduceIte,Nat.reduceEqDiff,reduceIte], by simp (disch:=first|assumption|omega) only[e5,go_sem,↓reduceIte,Nat.reduceEqDiff,reduceIte], by simp (disch:=first|assumption|omega) only[e0,go_sem,↓reduceIte,reduceCtorEq,reduceIte], by simp (disch:=first|assumption|omega) only[e1,go_sem,↓reduceIte,Nat.reduceEqDiff,reduceIte], hP, by simp (disch:=first|assumption|omega) only[eh,go_sem]⟩ ?_
      clear e33 e32 e31 e7 e6 e5 e0 e1 eh hge hP hnl
      rintro d'' S' ⟨j, now, hjd, e40, e39, e38, e8, e33, e32, e31, e7, e6, e5, e0, e1, hP, eh⟩
      have hge : S'.heap[H.length]? = some (.cells (ints .i64 now ++ List.replicate (c - F.length) .junk)) := by rw [eh, hpx_get0]; rfl
      have hnl := hP.1
      by_cases hjl : (j : Int) < (nx g r).length
      · have hj1 : j < (nx g r).length := by omega
        have hj2 : j < (ni (nx g r)).length := by rw [ni_length]; exact hj1
        have hatj := at_int hj2
        rw [ni_get hj2] at hatj
        have hkl := hg.ok r _ (List.getElem_mem hj1)
        generalize hk : (nx g r)[j] = k at *
        have hatk : at_ (ints .i64 F) (k : Int) = .int .i64 (F.getD k 0) := at_ints' F k (by omega)
        have hatr : at_ (ints .i64 F) (r : Int) = .int .i64 (F.getD r 0) := at_ints' F r (by omega)
        have hrF : (r : Int) < F.length := by omega
        have hkF : (k : Int) < F.length := by omega
        have hset := ints_set' (k := .i64) now (List.replicate (c - F.length) .junk) r n (by omega)
        have hnw : IntKind.i64.wrap ((n : Int) - 1) = n - 1 := wrapI64 (by omega) (by omega)
        by_cases c1 : F.getD r 0 < 0
        case neg =>
          simp (disch:=first|assumption|omega) only[e40,e39,e38,e8,e33,e32,e31,e7,e6,e5,e0,e1,hjl,hatj,hatr,hrF,c1,ni_length,go_sem,↓reduceIte,Nat.reduceEqDiff,reduceCtorEq,Nat.reduceLeDiff,Nat.reduceLT,reduceIte,Int.reduceLT,Int.reduceNeg]
          exact ⟨d'' - 1, by omega, j + 1, now, by omega, by simp, hP.skip hj1 (.inl c1), eh⟩
        by_cases c2 : (n : Int) = 1
        · by_cases c3 : (k : Int) = i
          · simp (disch:=first|assumption|omega) only[e40,e39,e38,e8,e33,e32,e31,e7,e6,e5,e0,e1,hjl,hatj,hatr,hrF,c1,eq_true c2,eq_true c3,ni_length,hge,Nat.mul_one,hset,go_sem,↓reduceIte,Nat.reduceEqDiff,reduceCtorEq,Nat.reduceLeDiff,Nat.reduceLT,reduceIte,Int.reduceLT,Int.reduceNeg]
            exact ⟨by omega, d'' - 1, by omega, j + 1, _, by omega, by simp, hP.hit hr1 hj1 c1 (by rw [hk]; exact .inl ⟨by omega, by omega⟩), by rw [eh, hpx_set0]; rfl⟩
          · have c4 : ¬(1 : Int) < n := by omega
            simp (disch:=first|assumption|omega) only[e40,e39,e38,e8,e33,e32,e31,e7,e6,e5,e0,e1,hjl,hatj,hatr,hrF,c1,eq_true c2,c3,c4,ni_length,go_sem,↓reduceIte,Nat.reduceEqDiff,reduceCtorEq,Nat.reduceLeDiff,Nat.reduceLT,reduceIte,Int.reduceLT,Int.reduceNeg]
            exact ⟨d'' - 1, by omega, j + 1, now, by omega, by simp, hP.skip hj1 (.inr (by rw [hk]; rintro (⟨_, h⟩ | ⟨h, _⟩) <;> omega)), eh⟩
        · have c4 : (1 : Int) < n := by omega
          by_cases c5 : F.getD k 0 = (n : Int) - 1
          · simp (disch:=first|assumption|omega) only[e40,e39,e38,e8,e33,e32,e31,e7,e6,e5,e0,e1,hjl,hatj,hatr,hrF,c1,c2,c4,hatk,hkF,hnw,eq_true c5,ni_length,hge,Nat.mul_one,hset,go_sem,↓reduceIte,Nat.reduceEqDiff,reduceCtorEq,Nat.reduceLeDiff,Nat.reduceLT,reduceIte,Int.reduceLT,Int.reduceNeg]
            exact ⟨by omega, d'' - 1, by omega, j + 1, _, by omega, by simp, hP.hit hr1 hj1 c1 (by rw [hk]; exact .inr ⟨by omega, c5⟩), by rw [eh, hpx_set0]; rfl⟩
          · simp (disch:=first|assumption|omega) only[e40,e39,e38,e8,e33,e32,e31,e7,e6,e5,e0,e1,hjl,hatj,hatr,hrF,c1,c2,c4,hatk,hkF,hnw,c5,ni_length,go_sem,↓reduceIte,Nat.reduceEqDiff,reduceCtorEq,Nat.reduceLeDiff,Nat.reduceLT,reduceIte,Int.reduceLT,Int.reduceNeg]
            exact ⟨d'' - 1, by omega, j + 1, now, by omega, by simp, hP.skip hj1 (.inr (by rw [hk]; rintro (⟨h, _⟩ | ⟨_, h⟩) <;> omega)), eh⟩
      · obtain rfl : j = (nx g r).length := by omega
        simp (disch:=first|assumption|omega) only[e40,e39,e33,e32,e31,e7,e6,e5,e0,e1,hjl,go_sem,↓reduceIte,Nat.reduceEqDiff,reduceCtorEq,reduceIte,Int.reduceNeg]
        exact ⟨d' - 1, by omega, r + 1, now, by omega, by simp, hP.row, eh⟩
    · obtain rfl : r = g.length := by omega
      have hnow := hP.done
      simp (disch:=first|assumption|omega) only[e33,e32,hrl,go_sem,↓reduceIte,reduceIte,Int.reduceNeg]
      refine own_ints' (k := .i64) (ns := now) (rest := List.replicate (c - F.length) .junk) (cap := c) (id := H.length) (by simp (disch:=first|assumption|omega) only[e7,hnl,hFl,go_sem,↓reduceIte,Nat.reduceEqDiff,reduceIte]) (by simp (disch:=first|assumption|omega) only[hge,go_sem]) (by omega) (by simp; omega) ?_
      rintro hp hhp
      rw [aw_grab]
      simp (disch:=first|assumption|omega) only[e6,go_sem,↓reduceIte,Nat.reduceEqDiff,reduceCtorEq,reduceIte,Int.reduceNeg]
      have hF2 := hF.step hg.ok
      rw [hn0, ← hnow] at hF2
      rcases hhp with ⟨rfl, _⟩ | ⟨rfl, _⟩
      · exact ⟨d - 1, by omega, n + 1, now, _, by omega, by omega, by simp, rfl, hF2, e0, e1, by show S'.heap = _; rw [eh, hH, List.append_assoc]⟩
      · exact ⟨d - 1, by omega, n + 1, now, _, by omega, by omega, by simp, rfl, hF2, e0, e1, by show S'.heap.set H.length .dead = _; rw [eh, hpx_set0, hH, List.append_assoc]⟩
  · obtain rfl : n = D + 1 := by omega
    have hFD : F.getD i 0 = D := hFi.1 (by omega)
    have hneg : ¬F.getD i 0 < 0 := by omega
    simp (disch:=first|assumption|omega) only[e5,e1,hati,hil,hneg,go_sem,↓reduceIte,Nat.reduceEqDiff,Nat.reduceLeDiff,Nat.reduceLT,reduceIte,Int.reduceLT,Int.reduceMul,Int.reduceNeg,Nat.reduceMul]
    have hF' : FarOk g i D F := by simpa using hF
    rw [hFD] at hati
    have hni1 : ∀ (l : List Nat) (k : Nat), ints .i64 (ni l) ++ [AVal.int .i64 k] = ints .i64 (ni (l ++ [k])) := fun l k => by rw [ni_append, ← ints_append]; rfl
    refine aw_count (fun d' S' => ∃ (left a : Nat) (pre : List Nat), left = d' + 1 ∧ left ≤ D ∧ S'.env 14 = .int .i64 left ∧ S'.env 13 = .int .i64 a ∧ S'.env 12 = .lst (.app 1) (ints .i64 (ni (pre ++ [a]))) ∧ pre ++ wayF g F left a = wayF g F D i ∧ pre.length + left = D ∧ Ld g i left a ∧ S'.env 5 = .lst .sh (ints .i64 F) ∧ S'.env 0 = .lst o xs ∧ S'.heap = h ++ ext) (n := D - 1)
      ⟨D, i, [], by omega, Nat.le_refl _, by simp (disch:=first|assumption|omega) only[hFD,go_sem,↓reduceIte,reduceIte], by simp (disch:=first|assumption|omega) only[go_sem,↓reduceIte,Nat.reduceEqDiff,reduceIte], by simp (disch:=first|assumption|omega) only[go_sem,↓reduceIte,Nat.reduceEqDiff,reduceIte]; rfl, rfl, by simp, hD, by simp (disch:=first|assumption|omega) only[e5,go_sem,↓reduceIte,Nat.reduceEqDiff,reduceIte], by simp (disch:=first|assumption|omega) only[e0,go_sem,↓reduceIte,reduceCtorEq,reduceIte], by simp (disch:=first|assumption|omega) only[eh,go_sem]⟩ ?_
    clear e6 e0 e1 hnd
    rintro d' S' ⟨left, a, pre, hld, hlD, e14, e13, e12, hpre, hpl, hLd, e5', e0, eh'⟩
    by_cases h1 : (1 : Int) < left
    · obtain ⟨l2, rfl⟩ : ∃ l2, left = l2 + 2 := ⟨left - 2, by omega⟩
      have ha := hLd.1.lt
      have ha2 : a < (toI g).length := by rw [toI_length]; exact ha
      have ha3 : (a : Int) < xs.length := by omega
      have ha4 : a < xs.length := by omega
      obtain ⟨q, hq, hxa⟩ := hx.at a ha2
      rw [toI_get ha2] at hq hxa
      have hq1 := hq.1
      have hrow := hg.row a
      simp (disch:=first|assumption|omega) only[e14,e13,e0,h1,ha3,hxa,go_sem,↓reduceIte,Nat.reduceEqDiff,reduceCtorEq,Nat.reduceLeDiff,Nat.reduceLT,reduceIte,Int.reduceLT,Int.reduceNeg]
      refine aw_count (fun d'' S' => ∃ (j : Nat), j + d'' = (nx g a).length ∧ S'.env 94 = .int .i64 j ∧ S'.env 93 = .int .i64 (nx g a).length ∧ S'.env 92 = .lst q (ints .i64 (ni (nx g a))) ∧ S'.env 15 = .int .i64 (bestN F ((l2 : Int) + 1) ((nx g a).take j) (-1)) ∧ S'.env 14 = .int .i64 (l2 + 2 : Nat) ∧ S'.env 13 = .int .i64 a ∧ S'.env 12 = .lst (.app 1) (ints .i64 (ni (pre ++ [a]))) ∧ S'.env 5 = .lst .sh (ints .i64 F) ∧ S'.env 0 = .lst o xs ∧ S'.heap = h ++ ext) (n := (nx g a).length)
        ⟨0, by omega, by simp (disch:=first|assumption|omega) only[go_sem,↓reduceIte,reduceIte,Int.reduceNeg], by simp (disch:=first|assumption|omega) only[ni_length,go_sem,↓reduceIte,Nat.reduceEqDiff,reduceIte,Int.reduceNeg], by simp (disch:=first|assumption|omega) only[go_sem,↓reduceIte,Nat.reduceEqDiff,reduceIte,Int.reduceNeg], by simp (disch:=first|assumption|omega) only[go_sem,↓reduceIte,Nat.reduceEqDiff,reduceIte,Int.reduceNeg]; rfl, by simp (disch:=first|assumption|omega) only[e14,go_sem,↓reduceIte,Nat.reduceEqDiff,reduceIte,Int.reduceNeg], by simp (disch:=first|assumption|omega) only[e13,go_sem,↓reduceIte,Nat.reduceEqDiff,reduceIte,Int.reduceNeg], by simp (disch:=first|assumption|omega) only[e12,go_sem,↓reduceIte,Nat.reduceEqDiff,reduceIte,Int.reduceNeg], by simp (disch:=first|assumption|omega) only[e5',go_sem,↓reduceIte,Nat.reduceEqDiff,reduceIte,Int.reduceNeg], by simp (disch:=first|assumption|omega) only[e0,go_sem,↓reduceIte,reduceCtorEq,reduceIte,Int.reduceNeg], by simp (disch:=first|assumption|omega) only[eh',go_sem,Int.reduceNeg]⟩ ?_
      clear e14 e13 e12 e5' e0 eh'
      rintro d'' S' ⟨j, hjd, e94, e93, e92, e15, e14, e13, e12, e5', e0, eh'⟩
      have hw : IntKind.i64.wrap (((l2 + 2 : Nat) : Int) - 1) = (l2 : Int) + 1 := by rw [wrapI64 (by omega) (by omega)]; omega
      have hwn : ((l2 : Int) + 1) = ((l2 + 1 : Nat) : Int) := by omega
      by_cases hjl : (j : Int) < (nx g a).length
      · have hj1 : j < (nx g a).length := by omega
        have hj2 : j < (ni (nx g a)).length := by rw [ni_length]; exact hj1
        have hatj := at_int hj2
        rw [ni_get hj2] at hatj
        have hkl := hg.ok a _ (List.getElem_mem hj1)
        have hsn := bestN_snoc (F := F) (d := (l2 : Int) + 1) (nx g a)[j] ((nx g a).take j) (-1)
        have htk : (nx g a).take (j + 1) = (nx g a).take j ++ [(nx g a)[j]] := by rw [List.take_add_one, List.getElem?_eq_getElem hj1]; rfl
        rw [← htk] at hsn
        generalize (nx g a)[j] = k at *
        generalize bestN F ((l2 : Int) + 1) ((nx g a).take j) (-1) = b at *
        have hatk : at_ (ints .i64 F) (k : Int) = .int .i64 (F.getD k 0) := at_ints' F k (by omega)
        have hkF : (k : Int) < F.length := by omega
        by_cases c5 : F.getD k 0 = (l2 : Int) + 1
        · by_cases c6 : b < 0
          · rw [if_pos ⟨c5, .inl c6⟩] at hsn
            simp (disch:=first|assumption|omega) only[e94,e93,e92,e15,e14,e13,e12,e5',e0,hjl,hatj,hatk,hkF,hw,eq_true c5,c6,ni_length,go_sem,↓reduceIte,Nat.reduceEqDiff,reduceCtorEq,Nat.reduceLeDiff,Nat.reduceLT,reduceIte,Int.reduceLT,Int.reduceNeg]
            exact ⟨d'' - 1, by omega, j + 1, by omega, by simp, by rw [hsn], eh'⟩
          · by_cases c7 : (k : Int) < b
            · rw [if_pos ⟨c5, .inr c7⟩] at hsn
              simp (disch:=first|assumption|omega) only[e94,e93,e92,e15,e14,e13,e12,e5',e0,hjl,hatj,hatk,hkF,hw,eq_true c5,c6,c7,ni_length,go_sem,↓reduceIte,Nat.reduceEqDiff,reduceCtorEq,Nat.reduceLeDiff,Nat.reduceLT,reduceIte,Int.reduceLT,Int.reduceNeg]
              exact ⟨d'' - 1, by omega, j + 1, by omega, by simp, by rw [hsn], eh'⟩
            · rw [if_neg (fun h => h.2.elim c6 c7)] at hsn
              simp (disch:=first|assumption|omega) only[e94,e93,e92,e15,e14,e13,e12,e5',e0,hjl,hatj,hatk,hkF,hw,eq_true c5,c6,c7,ni_length,go_sem,↓reduceIte,Nat.reduceEqDiff,reduceCtorEq,Nat.reduceLeDiff,Nat.reduceLT,reduceIte,Int.reduceLT,Int.reduceNeg]
              exact ⟨d'' - 1, by omega, j + 1, by omega, by simp, by rw [hsn], eh'⟩
        · rw [if_neg (fun h => c5 h.1)] at hsn
          simp (disch:=first|assumption|omega) only[e94,e93,e92,e15,e14,e13,e12,e5',e0,hjl,hatj,hatk,hkF,hw,c5,ni_length,go_sem,↓reduceIte,Nat.reduceEqDiff,reduceCtorEq,Nat.reduceLeDiff,Nat.reduceLT,reduceIte,Int.reduceLT,Int.reduceNeg]
          exact ⟨d'' - 1, by omega, j + 1, by omega, by simp, by rw [hsn], eh'⟩
      · obtain rfl : j = (nx g a).length := by omega
        rw [List.take_length] at e15
        obtain ⟨b, hb1, hb2, hb3⟩ := best_ok hg.ok hF' (by omega) hLd
        rw [hb1] at e15
        have hwF : wayF g F (l2 + 2) a = a :: wayF g F (l2 + 1) b := by rw [wayF, hb1]; simp
        simp only[e94,e93,e15,e14,e12,e5',e0,hjl,hw,hni1,ni_length,go_sem,↓reduceIte,Nat.reduceEqDiff,reduceCtorEq,Nat.reduceLeDiff,reduceIte,Int.reduceMul,Int.reduceNeg,Nat.reduceMul]
        exact ⟨by omega, by omega, d' - 1, by omega, l2 + 1, b, pre ++ [a], by omega, by omega, by simp, rfl, by simp, by rw [← hpre, hwF]; simp, by simp; omega, hb3, eh'⟩
    · obtain rfl : left = 1 := by omega
      simp only[e14,e12,h1,go_sem,↓reduceIte,Nat.reduceEqDiff,reduceIte,Int.reduceNeg]
      subst hQ
      simp only[R.ring_shortest,go_sem,↓reduceIte,reduceIte]
      have hpa : pre ++ [a] = wayF g F D i := hpre
      exact ⟨ext, eh', by simp [AVal.ids, ints_ids], D, F, hD, hF', by rw [hpa]⟩
end Go.Proofs.Ytpdajkbfemcdlaa
namespace Go.Proofs.Ytpdajkbfemcdlaa
open Go.Ge
def FindQ (g : Gr) (r : AVal) : Prop :=
  stuckL g = [] ∧ r = .tup [.lst .nil [], .int .i64 4] ∨ ∃ i l d F, stuckL g = i :: l ∧ Ld g i d i ∧ FarOk g i d F ∧ r = .tup [.lst (.app 1) (ints .i64 (ni (wayF g F d i))), .int .i64 0]
theorem Find_ok (o : Own) (g : Gr) (xs : List AVal) (ho : Rdo o) (hg : Gfine g) (hx : Each2 RowOk (toI g) xs) (h : List HObj) :
    ACalls Try.prog F.ring_Find [.lst o xs] h (fun r h' => FindQ g r ∧ h' = h) := by
  have hsl := stuckN_length g g.length
  have n64 := hg.n64
  refine ACalls.of_aw Try.func93 K.ring_Find (by simp [Try.f93]) ?_
  generalize hQ : retQ R.ring_Find _ = Q
  simp (disch:=first|assumption|omega) only[C.ring_Find,go_sem,↓reduceIte,reduceCtorEq,reduceIte]
  refine callG_ok (Stuck_ok o g xs ho hg hx _) (by simp (disch:=first|assumption|omega) only[go_sem]) ?_
  rintro _ _ ⟨⟨q, rfl, hq⟩, hhh⟩
  rw [hhh]
  clear hhh
  cases hS : stuckL g with
  | nil =>
    rw [hS] at hq
    rcases hq with ⟨rfl, _⟩ | rfl
    · have e : ints .i64 (ni ([] : List Nat)) = [] := rfl
      simp only[e,go_sem,↓reduceIte,Nat.reduceEqDiff,Nat.reduceAdd,Nat.reduceLT,reduceIte,Int.reduceLT,Int.reduceAdd]
      subst hQ
      simp only[R.ring_Find,go_sem,↓reduceIte,Nat.reduceEqDiff,reduceIte]
      exact .inl ⟨hS, rfl⟩
    · have e : ints .i64 (ni ([] : List Nat)) = [] := rfl
      simp only[e,go_sem,↓reduceIte,Nat.reduceEqDiff,Nat.reduceAdd,Nat.reduceLT,reduceIte,Int.reduceLT,Int.reduceAdd]
      subst hQ
      simp only[R.ring_Find,go_sem,↓reduceIte,Nat.reduceEqDiff,reduceIte]
      exact .inl ⟨hS, rfl⟩
  | cons i l =>
    rw [hS] at hq
    have hq : q = .app 1 := hq.elim (fun h => by cases h.2) id
    subst hq
    have hmi : i ∈ stuckL g := by rw [hS]; simp
    obtain ⟨hi, hr⟩ := mem_stuckL.1 hmi
    have hat : at_ (ints .i64 (ni (i :: l))) 0 = .int .i64 i := rfl
    have hlen : (ni (i :: l)).length = l.length + 1 := by simp [ni]
    have hl0 : ¬((l.length + 1 : Nat) : Int) = 0 := by omega
    have hl1 : (0 : Int) < ((l.length + 1 : Nat) : Int) := by omega
    simp (disch:=first|assumption|omega) only[hlen,hl0,hat,hl1,go_sem,↓reduceIte,Nat.reduceEqDiff,reduceCtorEq,Nat.reduceAdd,Nat.reduceLeDiff,Nat.reduceLT,reduceIte,Int.reduceLT,Int.reduceLE,Int.reduceAdd]
    refine callG_ok (shortest_ok o g xs ho hg hx i hi hr _) (by simp (disch:=first|assumption|omega) only[go_sem]) ?_
    rintro _ _ ⟨⟨d, F, hd, hF, rfl⟩, hhh⟩
    rw [hhh]
    clear hhh
    simp only[go_sem,↓reduceIte,reduceIte]
    subst hQ
    simp only[R.ring_Find,go_sem,↓reduceIte,Nat.reduceEqDiff,reduceIte]
    exact .inr ⟨i, l, d, F, hS, hd, hF, rfl⟩
def rawRow : List Nat → AVal
  | [] => .lst .nil []
  | a :: l => .lst (.app 1) (ints .i64 (ni (a :: l)))
theorem pend_le {g : Gr} {M : Nat} (h : ∀ i, (nx g i).length ≤ M) (s : List Bool) : pend g s ≤ g.length * M := by
  unfold pend
  have key : ∀ n, ((List.range n).map fun k => if s.getD k false then 0 else (nx g k).length).sum ≤ n * M := by
    intro n
    induction n with
    | zero => simp
    | succ n ih =>
      rw [List.range_succ, List.map_append, List.sum_append]
      simp only[List.map_cons,List.map_nil,List.sum_cons,List.sum_nil,Nat.add_zero,Nat.add_mul]
      have := h n
      split <;> omega
  exact key _
theorem rdc_raw (r : List Nat) : Ge.rdc (rawRow r) = .lst (if r = [] then .nil else .sh) (ints .i64 (ni r)) := by cases r <;> rfl
theorem raw_flat : ∀ g : Gr, ((g.map rawRow).map Ge.rdc).flatMap AVal.cells = (g.map rawRow).map Ge.rdc
  | [] => rfl
  | r :: g => by
    rw [List.map_cons, List.map_cons, List.flatMap_cons, raw_flat g, rdc_raw]; rfl
theorem raw_rows : ∀ g : Gr, Each2 RowOk (toI g) ((g.map rawRow).map Ge.rdc)
  | [] => rfl
  | r :: g => by
    refine ⟨_, _, rfl, ?_, raw_rows g⟩
    rw [rdc_raw]
    refine ⟨_, ?_, rfl⟩
    by_cases h : r = []
    · subst h; exact ⟨.inr rfl, fun _ => rfl⟩
    · rw [if_neg h]; exact ⟨.inl rfl, fun e => by cases e⟩
end Go.Proofs.Ytpdajkbfemcdlaa
namespace Go.Proofs.Ytpdajkbfemcdlaa
open Go.Ge
theorem fine1 : Gfine [[0]] := by
  refine ⟨?_, by simp, Nat.le_trans (pend_le (M := 1) (fun i => ?_) _) (by simp)⟩
  · intro i k hk
    cases i with
    | zero => simp [nx] at hk; simp [hk]
    | succ i => simp [nx] at hk
  · cases i with
    | zero => simp [nx]
    | succ i => simp [nx]
theorem find1 {r : AVal} (h : FindQ [[0]] r) : r = .tup [.lst (.app 1) (ints .i64 [0]), .int .i64 0] := by
  have hr : Rch [[0]] 0 0 := .one (by simp [nx])
  rcases h with ⟨h, _⟩ | ⟨i, l, d, F, h, hd, hF, rfl⟩
  · have : (0 : Nat) ∈ stuckL [[0]] := mem_stuckL.2 ⟨by simp, hr⟩
    rw [h] at this; cases this
  · have hi : i ∈ stuckL [[0]] := by rw [h]; simp
    have hi0 : i = 0 := by have := (mem_stuckL.1 hi).1; simp at this; exact this
    subst hi0
    have h1 : Ld [[0]] 0 1 0 := ⟨.one (by simp [nx]), fun m hm hw => by have := hw.pos; omega⟩
    have := hd.uniq h1
    subst this
    rfl
end Go.Proofs.Ytpdajkbfemcdlaa
namespace Go.Proofs.Ytpdajkbfemcdlaa
open Go.Ge Go.Sort
def rowW (T : Tb) (i k : Nat) : List Nat := (List.range k).filter fun j => j != i && touch (T.wish i) (T.of j)
theorem rowW_succ (T : Tb) (i k : Nat) : rowW T i (k + 1) = rowW T i k ++ if (k != i && touch (T.wish i) (T.of k)) = true then [k] else [] := by
  unfold rowW
  rw [List.range_succ, List.filter_append, List.filter_cons]
  simp only[List.filter_nil]
theorem rowW_len (T : Tb) (i k : Nat) : (rowW T i k).length ≤ k := by
  unfold rowW
  exact Nat.le_trans (List.length_filter_le _ _) (by simp)
theorem mem_rowW {T : Tb} {i k j : Nat} : j ∈ rowW T i k ↔ j < k ∧ j ≠ i ∧ touch (T.wish i) (T.of j) = true := by
  unfold rowW
  rw [List.mem_filter, List.mem_range]; simp
def GrW (T : Tb) (n i k : Nat) (g : Gr) : Prop := g.length = n ∧ ∀ j, nx g j = if j < i then rowW T j n else if j = i then rowW T i k else []
theorem GrW.start (T : Tb) (n : Nat) : GrW T n 0 0 (List.replicate n []) := by
  refine ⟨by simp, fun j => ?_⟩
  have : nx (List.replicate n ([] : List Nat)) j = [] := by
    simp only[nx,List.getD_eq_getElem?_getD,List.getElem?_replicate]; split <;> rfl
  rw [this, if_neg (by omega)]
  split <;> rfl
theorem GrW.row {T : Tb} {n i : Nat} {g : Gr} (h : GrW T n i n g) : GrW T n (i + 1) 0 g := by
  refine ⟨h.1, fun j => ?_⟩
  rw [h.2]
  by_cases h1 : j < i
  · rw [if_pos h1, if_pos (by omega)]
  · by_cases h2 : j = i
    · subst h2; rw [if_neg h1, if_pos rfl, if_pos (by omega)]
    · rw [if_neg h1, if_neg h2, if_neg (by omega)]; split <;> rfl
theorem GrW.skip {T : Tb} {n i k : Nat} {g : Gr} (h : GrW T n i k g) (hn : (k != i && touch (T.wish i) (T.of k)) = false) : GrW T n i (k + 1) g := by
  refine ⟨h.1, fun j => ?_⟩
  rw [h.2, rowW_succ, hn]; simp
theorem GrW.push {T : Tb} {n i k : Nat} {g : Gr} (h : GrW T n i k g) (hi : i < n) (hn : (k != i && touch (T.wish i) (T.of k)) = true) : GrW T n i (k + 1) (g.set i (nx g i ++ [k])) := by
  refine ⟨by rw [List.length_set]; exact h.1, fun j => ?_⟩
  have hgi := h.2 i
  rw [if_neg (by omega), if_pos rfl] at hgi
  have hset : nx (g.set i (nx g i ++ [k])) j = if j = i then nx g i ++ [k] else nx g j := by
    simp only[nx]
    by_cases e : j = i
    · subst e; rw [if_pos rfl, List.getD_eq_getElem?_getD, List.getElem?_set_self (by rw [h.1]; exact hi)]; rfl
    · rw [if_neg e, List.getD_eq_getElem?_getD, List.getElem?_set_ne (fun h => e h.symm), List.getD_eq_getElem?_getD]
  rw [hset, rowW_succ, hn, if_pos rfl]
  by_cases e : j = i
  · subst e; rw [if_pos rfl, if_neg (by omega), if_pos rfl, hgi]
  · rw [if_neg e, h.2, if_neg e, if_neg e]
theorem GrW.edge {T : Tb} {n : Nat} {g : Gr} (h : GrW T n n 0 g) {i j : Nat} (hj : j ∈ nx g i) : i < n ∧ j < n ∧ j ≠ i ∧ touch (T.wish i) (T.of j) = true := by
  rw [h.2] at hj
  split at hj
  · rename_i hi
    obtain ⟨h1, h2, h3⟩ := mem_rowW.1 hj
    exact ⟨hi, h1, h2, h3⟩
  · split at hj
    · obtain ⟨h1, _⟩ := mem_rowW.1 hj
      omega
    · cases hj
theorem GrW.fine {T : Tb} {n : Nat} {g : Gr} (h : GrW T n n 0 g) (h4 : n ≤ 4) : Gfine g := by
  refine ⟨fun i k hk => by rw [h.1]; exact (h.edge hk).2.1, by rw [h.1]; omega, Nat.le_trans (pend_le (M := 4) (fun i => ?_) _) (by rw [h.1]; omega)⟩
  rw [h.2]
  split
  · have := rowW_len T i n; omega
  · split
    · have := rowW_len T n 0; omega
    · simp
theorem wk_rcw {T : Tb} (hI : T.Inv) {n : Nat} {g : Gr} (h : GrW T n n 0 g) {t m i : Nat} (hw : Wk g t m i) : ∃ x, x ∈ nxt T i ∧ Rcw T x t := by
  have he : ∀ {i j : Nat}, j ∈ nx g i → j ∈ nxt T i := fun {i j} hj => by
    obtain ⟨_, _, h3, h4⟩ := h.edge hj
    exact wish_edge hI h3 (by rw [touch_comm]; exact h4)
  induction hw with
  | one hj => exact ⟨_, he hj, .refl _⟩
  | step hj _ ih =>
    obtain ⟨x, hx, hr⟩ := ih
    exact ⟨_, he hj, .step hx hr⟩
theorem stuck_none {T : Tb} (hI : T.Inv) {n : Nat} {g : Gr} (h : GrW T n n 0 g) : stuckL g = [] := List.eq_nil_iff_forall_not_mem.2 fun k hk => by
  obtain ⟨_, m, hw⟩ := mem_stuckL.1 hk
  obtain ⟨x, hx, hr⟩ := wk_rcw hI h hw
  exact hI.acy k x hx hr
end Go.Proofs.Ytpdajkbfemcdlaa
namespace Go.Proofs.Ytpdajkbfemcdlaa
open Go.Ge Go.Sort
theorem TopWaits_law (arms : Int) (o : Own) (l : List Int) (ha : inI64 arms) (ho : Rdo o) (hl : ∀ c ∈ l, inI64 c) (hll : l.length ≤ 1152921504606846976) :
    ACalls Try.prog F.ganttop_TopWaits [.int .i64 arms, .lst o (ints .i64 l)] [] (fun r _ => r = .bool true) := by
  have ro : ∀ l : List Cell, Rdn .sh l := fun l => ⟨.inl rfl, fun e => by cases e⟩
  refine ACalls.of_aw Try.func39 K.ganttop_TopWaits (by simp [Try.f39]) ?_
  generalize hQ : retQ R.ganttop_TopWaits _ = Q
  simp only[C.ganttop_TopWaits,go_sem,↓reduceIte,Nat.reduceLeDiff,reduceIte,Int.reduceMul,Nat.reduceMul]
  refine callG_ok (Find_ok .sh [[0]] [.lst .sh (ints .i64 [0])] (.inl rfl) fine1 ⟨_, _, rfl, ⟨.sh, ⟨.inl rfl, fun e => by cases e⟩, rfl⟩, rfl⟩ _) (by simp only[go_sem]) ?_
  rintro _ _ ⟨hq, hhh⟩
  rw [hhh]
  clear hhh
  obtain rfl := find1 hq
  clear hq
  simp only[go_sem,↓reduceIte,Nat.reduceEqDiff,Nat.reduceAdd,Nat.reduceLeDiff,Nat.reduceLT,reduceIte,Int.reduceLT,Int.reduceAdd,Int.reduceMul,Nat.reduceMul]
  refine callG_ok (EqualInt_ok .sh .sh [0] [0] (.inl rfl) (.inl rfl) (by simp) (by simp) _) (by simp only[go_sem]) ?_
  rintro _ _ ⟨rfl, hhh⟩
  rw [hhh, decide_eq_true rfl]
  clear hhh
  simp only[go_sem,↓reduceIte,Nat.reduceEqDiff,reduceCtorEq,reduceIte]
  refine callG_ok (Below_ok arms 3 ha (by omega) (by omega) _) (by simp only[go_sem]) ?_
  rintro _ _ ⟨rfl, hhh⟩
  rw [hhh]
  clear hhh
  have m1 := Int.emod_nonneg arms (b := 3) (by omega)
  have m2 := Int.emod_lt_of_pos arms (b := 3) (by omega)
  obtain ⟨n, hn⟩ : ∃ n : Nat, 2 + arms % 3 = n := ⟨(2 + arms % 3).toNat, by omega⟩
  have hn1 : 2 ≤ n := by omega
  have hn4 : n ≤ 4 := by omega
  obtain ⟨i0, b0⟩ := newT_inv n
  simp (disch:=first|assumption|omega) only[hn,go_sem,↓reduceIte,reduceIte]
  refine callG_ok (NewLv n (by omega) hn4 _) (by simp (disch:=first|assumption|omega) only[go_sem]) ?_
  rintro _ h1 ⟨tid, rfl, hL⟩
  simp only[go_sem] at hL
  obtain ⟨N, hN, hN40, hNl⟩ : ∃ N : Nat, (if (40 : Int) < l.length then (40 : Int) else (l.length : Int)) = (N : Int) ∧ N ≤ 40 ∧ N ≤ l.length := by
    split
    · exact ⟨40, rfl, by omega, by omega⟩
    · exact ⟨l.length, rfl, by omega, by omega⟩
  have hNI : (N : Int) ≤ l.length := by omega
  simp (disch:=first|assumption|omega) only[hN,ints_take,go_sem,↓reduceIte,Nat.reduceEqDiff,reduceCtorEq,Nat.reduceAdd,Nat.reduceLT,reduceIte,Int.reduceLT,Int.reduceLE,Int.reduceAdd]
  have hLn : (l.take N).length = N := by simp; omega
  have hLw : ∀ c ∈ l.take N, inI64 c := fun c hc => hl c (List.mem_of_mem_take hc)
  refine ⟨⟨by omega, ints_width _⟩, ?_⟩
  refine aw_count (fun d S => ∃ (i : Nat) (T : Tb), i + d = N ∧ S.env 55 = .int .i64 i ∧ S.env 54 = .int .i64 N ∧ S.env 53 = .lst .sh (ints .i64 (l.take N)) ∧ S.env 7 = .hp tid 0 ∧ S.env 0 = .int .i64 n ∧ Lv [] S.heap tid T ∧ Good n T) (n := N)
    ⟨0, newT n, by omega, by simp (disch:=first|assumption|omega) only[go_sem,↓reduceIte,reduceIte], by simp (disch:=first|assumption|omega) only[hLn,go_sem,↓reduceIte,Nat.reduceEqDiff,reduceIte], by simp (disch:=first|assumption|omega) only[go_sem,↓reduceIte,Nat.reduceEqDiff,reduceIte], by simp (disch:=first|assumption|omega) only[go_sem,↓reduceIte,Nat.reduceEqDiff,reduceIte], by simp (disch:=first|assumption|omega) only[go_sem,↓reduceIte,reduceCtorEq,reduceIte], by simp (disch:=first|assumption|omega) only[go_sem]; exact hL, i0, b0, by simp [newT]⟩ ?_
  generalize l.take N = L at *
  rintro d S ⟨i, T, hid, e55, e54, e53, e7, e0, hT, hG⟩
  have hGG := hG
  obtain ⟨hI, hB, hTn⟩ := hG
  by_cases hlt : (i : Int) < N
  · have hlt1 : i < L.length := by omega
    have hgx := at_ints' (k := .i64) L i hlt1
    have hxi := hLw _ (List.getElem_mem hlt1)
    rw [getD_at hlt1] at hgx
    generalize L[i] = x at *
    simp only[e55,e54,e53,hlt,hgx,go_sem,↓reduceIte,Nat.reduceEqDiff,Nat.reduceLeDiff,Nat.reduceLT,reduceIte,Int.reduceLT]
    refine ⟨hlt1, ?_⟩
    refine callG_ok (Below_ok x 5 hxi (by omega) (by omega) _) (by simp only[go_sem]) ?_
    rintro _ _ ⟨rfl, hhh⟩
    rw [hhh]
    clear hhh
    by_cases hz : x % 5 = 0
    · simp only[e0,hz,go_sem,↓reduceIte,Nat.reduceEqDiff,reduceCtorEq,reduceIte,Int.reduceNe]
      refine callG_ok (Below_ok (IntKind.i64.wrap (x.tdiv 5)) n (wrap_inI64 _) (by omega) (by omega) _) (by simp only[go_sem]) ?_
      rintro _ _ ⟨rfl, hhh⟩
      rw [hhh]
      clear hhh
      have k1 := Int.emod_nonneg (IntKind.i64.wrap (x.tdiv 5)) (b := (n : Int)) (by omega)
      have k2 := Int.emod_lt_of_pos (IntKind.i64.wrap (x.tdiv 5)) (b := (n : Int)) (by omega)
      obtain ⟨a, ha'⟩ := Int.eq_ofNat_of_zero_le k1
      rw [ha'] at k1 k2 ⊢
      have han : a < n := by omega
      simp only[e7,go_sem,↓reduceIte,Nat.reduceEqDiff,reduceIte]
      refine callG_ok (CellsLv a _ rfl T hI (by omega) tid [] _ (by simp only[go_sem]; exact hT)) (by simp only[go_sem]) ?_
      rintro _ _ ⟨⟨o', rfl, ho'⟩, hhh⟩
      rw [hhh]
      clear hhh
      have hcl := (fault_up (hI.ok a)).1
      obtain ⟨q1, hq1, hr1⟩ := rd_made ho'
      simp only[hr1,go_sem,↓reduceIte,Nat.reduceEqDiff,reduceIte]
      refine callG_ok (DoneLv a _ rfl q1 (T.of a) hq1 (by omega) T hI (by omega) (by omega) tid [] _ (by simp only[go_sem]; exact hT)) (by simp only[go_sem]) ?_
      rintro _ h2 ⟨rfl, hL2⟩
      have hG2 := Good.done hGG han (T.of a)
      generalize (if doneC T a (T.of a) = 0 then doneL T a (T.of a) else T) = T2 at *
      simp (disch:=first|assumption|omega) only[e55,e54,e53,e7,e0,go_sem,↓reduceIte,Nat.reduceEqDiff,reduceCtorEq,reduceIte]
      exact ⟨d - 1, by omega, i + 1, T2, by omega, by simp, hL2, hG2⟩
    · simp only[e7,e0,hz,go_sem,↓reduceIte,Nat.reduceEqDiff,reduceCtorEq,reduceIte,Int.reduceNe]
      refine callG_ok (Below_ok (IntKind.i64.wrap (x.tdiv 5)) n (wrap_inI64 _) (by omega) (by omega) _) (by simp only[go_sem]) ?_
      rintro _ _ ⟨rfl, hhh⟩
      rw [hhh]
      clear hhh
      have k1 := Int.emod_nonneg (IntKind.i64.wrap (x.tdiv 5)) (b := (n : Int)) (by omega)
      have k2 := Int.emod_lt_of_pos (IntKind.i64.wrap (x.tdiv 5)) (b := (n : Int)) (by omega)
      obtain ⟨a, ha'⟩ := Int.eq_ofNat_of_zero_le k1
      rw [ha'] at k1 k2 ⊢
      have han : a < n := by omega
      simp only[go_sem,↓reduceIte,Nat.reduceEqDiff,Nat.reduceAdd,Nat.reduceLeDiff,reduceIte,Int.reduceAdd,Int.reduceMul,Int.reduceNe,Nat.reduceMul]
      refine callG_ok (MadeUp_ok .sh [IntKind.i64.wrap (x.tdiv 7), IntKind.i64.wrap (x.tdiv 11)] (.inl rfl) (two_inI64 _ _) _) (by simp only[go_sem]) ?_
      rintro v _ ⟨⟨cs, h8, hcb, hup, hv⟩, hhh⟩
      rw [hhh]
      clear hhh
      obtain ⟨o2, rfl, ho2⟩ : ∃ o2, v = .lst o2 (cellsA cs) ∧ (o2 = .nil ∧ cs = [] ∨ o2 = .app 2) := hv.elim (fun e => ⟨.nil, by rw [e.1, e.2]; rfl, .inl ⟨rfl, e.2⟩⟩) fun e => ⟨.app 2, e, .inr rfl⟩
      obtain ⟨q1, hq1, hr1⟩ := rd_made ho2
      obtain ⟨tb, htb⟩ := ring_dec T a cs
      simp only[hr1,go_sem,↓reduceIte,Nat.reduceEqDiff,reduceIte]
      refine callG_ok (AskLv a _ rfl q1 cs hq1 (by omega) T hI (by omega) (by omega) tb htb tid [] _ (by simp only[go_sem]; exact hT)) (by simp only[go_sem]) ?_
      rintro _ h2 ⟨rfl, hL2⟩
      have hG2 := Good.ask hGG han htb
      generalize (askL T a cs tb).2 = T2 at *
      simp (disch:=first|assumption|omega) only[e55,e54,e53,e7,e0,go_sem,↓reduceIte,Nat.reduceEqDiff,reduceCtorEq,reduceIte]
      exact ⟨d - 1, by omega, i + 1, T2, by omega, by simp, hL2, hG2⟩
  · obtain rfl : i = N := by omega
    have hrep : List.replicate n (AVal.lst .nil []) = (List.replicate n ([] : List Nat)).map rawRow := by simp [rawRow]
    have hflat : ∀ g : Gr, (g.map rawRow).flatMap AVal.cells = g.map rawRow := by
      intro g
      induction g with
      | nil => rfl
      | cons r g ih => rw [List.map_cons, List.flatMap_cons, ih]; cases r <;> rfl
    simp only[e55,e54,e0,hlt,go_sem,↓reduceIte,reduceCtorEq,reduceIte]
    refine ⟨⟨by omega, by omega⟩, ?_⟩
    rw [aw_thaw]
    simp only[e0,hrep,hflat,List.length_map,List.length_replicate,Nat.sub_self,Nat.zero_mul,List.replicate_zero,go_sem,↓reduceIte,reduceCtorEq,Nat.reduceLT,reduceIte,Int.reduceLT]
    have hLg : ∀ X, Lv [] (S.heap ++ [X]) tid T := fun X => hT.frame (S := []) Fr.app (by simp)
    generalize S.heap = H at *
    refine ⟨?_, Nat.le_refl _, ?_⟩
    · intro x hx
      obtain ⟨r, hr, rfl⟩ := List.mem_map.1 hx
      rw [List.eq_of_mem_replicate hr]; exact ⟨rfl, rfl⟩
    refine aw_count (fun d S => ∃ (i : Nat) (q1 q2 : Own) (xs ys : List AVal) (g : Gr), i + d = n ∧ S.env 88 = .int .i64 i ∧ S.env 87 = .int .i64 n ∧ S.env 0 = .int .i64 n ∧ S.env 7 = .hp tid 0 ∧ S.env 13 = .lst q1 xs ∧ S.env 14 = .lst q2 ys ∧ S.env 12 = .ref H.length 0 n n ∧ S.heap = H ++ [.cells (g.map rawRow)] ∧ GrW T n i 0 g ∧ (i = 0 ∧ q1 = .nil ∧ q2 = .nil ∨ q1 = .app 1 ∧ q2 = .app 1) ∧ Each2 CelOk ((List.range i).map T.of) xs ∧ Each2 CelOk ((List.range i).map T.wish) ys) (n := n)
      ⟨0, .nil, .nil, [], [], List.replicate n [], by omega, by simp only[go_sem,↓reduceIte,reduceIte], by simp only[go_sem,↓reduceIte,Nat.reduceEqDiff,reduceIte], by simp only[e0,go_sem,↓reduceIte,reduceCtorEq,reduceIte], by simp only[e7,go_sem,↓reduceIte,Nat.reduceEqDiff,reduceIte], by simp only[go_sem,↓reduceIte,Nat.reduceEqDiff,reduceIte], by simp only[go_sem,↓reduceIte,Nat.reduceEqDiff,reduceIte], by simp only[go_sem,↓reduceIte,Nat.reduceEqDiff,reduceIte], by simp only[go_sem], GrW.start T n, .inl ⟨rfl, rfl, rfl⟩, rfl, rfl⟩ ?_
    clear e55 e54 e53 e7 e0 hid hlt hT
    rintro d S ⟨i, q1, q2, xs, ys, g, hi, e88, e87, e0, e7, e13, e14, e12, eh, hg, hq, hx, hy⟩
    have lx := hx.length
    have ly := hy.length
    simp only[List.length_map,List.length_range] at lx ly
    by_cases hlt : (i : Int) < n
    · have hin : i < n := by omega
      have hrs : (List.range (i + 1)).map T.of = (List.range i).map T.of ++ [T.of i] := by rw [List.range_succ]; simp
      have hrw : (List.range (i + 1)).map T.wish = (List.range i).map T.wish ++ [T.wish i] := by rw [List.range_succ]; simp
      have hfw := (fault_up (wish_fault hI i)).1
      rcases hq with ⟨hi0, rfl, rfl⟩ | ⟨rfl, rfl⟩
      · have hx0 : xs = [] := List.eq_nil_of_length_eq_zero (by omega)
        have hy0 : ys = [] := List.eq_nil_of_length_eq_zero (by omega)
        subst hx0 hy0
        simp only[e88,e87,e7,e13,hlt,go_sem,↓reduceIte,Nat.reduceEqDiff,reduceIte]
        refine callG_ok (CellsLv i _ rfl T hI (by omega) tid [] _ (by simp only[eh,go_sem]; exact hLg _)) (by simp only[go_sem]) ?_
        rintro _ _ ⟨⟨o1, rfl, ho1⟩, hhh⟩
        rw [hhh]
        clear hhh
        obtain ⟨r1, hr1, hc1, hro1⟩ := cel_made ho1
        simp only[e7,e14,hr1,go_sem,↓reduceIte,Nat.reduceEqDiff,Nat.reduceLeDiff,reduceIte,Int.reduceMul,Nat.reduceMul]
        refine callG_ok (WaitsLv i _ rfl T hI (by omega) (by omega) tid [] _ (by simp only[eh,go_sem]; exact hLg _)) (by simp only[go_sem]) ?_
        rintro _ _ ⟨⟨o2, rfl, ho2⟩, hhh⟩
        rw [hhh]
        clear hhh
        obtain ⟨r2, hr2, hc2, hro2⟩ := cel_made ho2
        simp only[e0,hr2,go_sem,↓reduceIte,Nat.reduceEqDiff,reduceCtorEq,Nat.reduceLeDiff,reduceIte,Int.reduceMul,Nat.reduceMul]
        have hX2 : Each2 CelOk ((List.range (i + 1)).map T.of) (([AVal.lst r1 (cellsA (T.of i))] : List AVal)) := by rw [hrs]; exact hx.append (Each2.one hc1)
        have hY2 : Each2 CelOk ((List.range (i + 1)).map T.wish) (([AVal.lst r2 (cellsA (T.wish i))] : List AVal)) := by rw [hrw]; exact hy.append (Each2.one hc2)
        refine aw_count (fun e S => ∃ (k : Nat) (g : Gr), k + e = n ∧ S.env 104 = .int .i64 k ∧ S.env 103 = .int .i64 n ∧ S.env 15 = .int .i64 i ∧ S.env 88 = .int .i64 i ∧ S.env 87 = .int .i64 n ∧ S.env 0 = .int .i64 n ∧ S.env 7 = .hp tid 0 ∧ S.env 13 = .lst (.app 1) (([AVal.lst r1 (cellsA (T.of i))] : List AVal)) ∧ S.env 14 = .lst (.app 1) (([AVal.lst r2 (cellsA (T.wish i))] : List AVal)) ∧ S.env 12 = .ref H.length 0 n n ∧ S.heap = H ++ [.cells (g.map rawRow)] ∧ GrW T n i k g) (n := n)
          ⟨0, g, by omega, by simp only[go_sem,↓reduceIte,reduceIte], by simp only[go_sem,↓reduceIte,Nat.reduceEqDiff,reduceIte], by simp only[go_sem,↓reduceIte,Nat.reduceEqDiff,reduceIte], by simp only[e88,go_sem,↓reduceIte,Nat.reduceEqDiff,reduceIte], by simp only[e87,go_sem,↓reduceIte,Nat.reduceEqDiff,reduceIte], by simp only[e0,go_sem,↓reduceIte,reduceCtorEq,reduceIte], by simp only[e7,go_sem,↓reduceIte,Nat.reduceEqDiff,reduceIte], by simp only[go_sem,↓reduceIte,Nat.reduceEqDiff,reduceIte]; try rfl, by simp only[go_sem,↓reduceIte,Nat.reduceEqDiff,reduceIte]; try rfl, by simp only[e12,go_sem,↓reduceIte,Nat.reduceEqDiff,reduceIte], by simp only[eh,go_sem], hg⟩ ?_
        generalize hXS : ([AVal.lst r1 (cellsA (T.of i))] : List AVal) = X at *
        generalize hYS : ([AVal.lst r2 (cellsA (T.wish i))] : List AVal) = Y at *
        clear e88 e87 e0 e7 e13 e14 e12 eh hg
        clear g
        rintro e S ⟨k, g, hk, e104, e103, e15, e88, e87, e0, e7, e13, e14, e12, eh, hg⟩
        by_cases hlk : (k : Int) < n
        · have hkn : k < n := by omega
          by_cases hki : k = i
          · subst hki
            have hself : (((k : Nat) : Int) = k) = True := eq_self _
            have hsk := hg.skip (by simp)
            simp (disch:=first|assumption|omega) only[e104,e103,e15,e88,e87,e0,e7,e13,e14,e12,eh,hlk,go_sem,↓reduceIte,Nat.reduceEqDiff,reduceCtorEq,reduceIte]
            exact ⟨e - 1, by omega, k + 1, g, by omega, by simp, rfl, hsk⟩
          · have hki' : ¬((k : Nat) : Int) = i := by omega
            simp only[e104,e103,e15,e7,hlk,hki',go_sem,↓reduceIte,Nat.reduceEqDiff,reduceIte]
            refine callG_ok (WaitsLv i _ rfl T hI (by omega) (by omega) tid [] _ (by simp only[eh,go_sem]; exact hLg _)) (by simp only[go_sem]) ?_
            rintro _ _ ⟨⟨o3, rfl, ho3⟩, hhh⟩
            rw [hhh]
            clear hhh
            obtain ⟨r3, hq3, hr3⟩ := rd_made ho3
            simp only[e7,go_sem,↓reduceIte,Nat.reduceEqDiff,reduceIte]
            refine callG_ok (CellsLv k _ rfl T hI (by omega) tid [] _ (by simp only[eh,go_sem]; exact hLg _)) (by simp only[go_sem]) ?_
            rintro _ _ ⟨⟨o4, rfl, ho4⟩, hhh⟩
            rw [hhh]
            clear hhh
            have hck := (fault_up (hI.ok k)).1
            obtain ⟨r4, hq4, hr4⟩ := rd_made ho4
            simp only[hr3,hr4,go_sem,↓reduceIte,Nat.reduceEqDiff,reduceIte]
            refine callG_ok (Meet_ok r3 r4 (T.wish i) (T.of k) hq3 hq4 (by omega) _) (by simp only[go_sem]) ?_
            rintro _ _ ⟨rfl, hhh⟩
            rw [hhh]
            clear hhh
            by_cases h0 : (0 : Int) < (meetC (T.wish i) (T.of k)).length
            · have ht1 : touch (T.wish i) (T.of k) = true := by
                unfold touch
                rw [decide_eq_true_iff]; omega
              have hpu := hg.push hin (k := k) (by simp [ht1, hki])
              have hge : S.heap[H.length]? = some (.cells (g.map rawRow)) := by rw [eh, hpx_get0]; rfl
              have hge2 : (H ++ [HObj.cells (g.map rawRow)])[H.length]? = some (.cells (g.map rawRow)) := by rw [hpx_get0]; rfl
              have hglm : (g.map rawRow).length = n := by rw [List.length_map]; exact hg.1
              have hgl := hg.1
              have hgd : (g.map rawRow).getD i .junk = rawRow (nx g i) := by
                have : i < g.length := by omega
                simp [List.getD_eq_getElem?_getD, nx, this]
              have hfill : ∀ y v : AVal, fillV ((g.map rawRow).set i y) i [v] = (g.map rawRow).set i v := fun y v => by
                have := fillV_one (xs := (g.map rawRow).set i y) (a := i) (x := v) (by rw [List.length_set, hglm]; exact hin)
                rw [Nat.mul_one] at this
                rw [this, List.set_set]
              have hfin : ∀ v, v = rawRow (nx g i ++ [k]) → H ++ [HObj.cells ((g.map rawRow).set i v)] = H ++ [.cells ((g.set i (nx g i ++ [k])).map rawRow)] := by
                rintro v rfl
                rw [List.map_set]
              have hrla : (nx g i).length ≤ 4 := by
                rw [hg.2, if_neg (by omega), if_pos rfl]
                have := rowW_len T i k
                omega
              have hin' : (i : Int) < n := by omega
              cases hr : nx g i with
              | nil =>
                rw [hr] at hgd hfin hpu
                simp only[rawRow] at hgd
                simp (disch:=first|assumption|omega) only[e104,e103,e15,e88,e87,e0,e7,e13,e14,e12,eh,h0,hin',hge2,hgd,hglm,Nat.mul_one,hfill,List.length_set,go_sem,↓reduceIte,Nat.reduceEqDiff,reduceCtorEq,Nat.reduceLeDiff,reduceIte,Int.reduceMul,Nat.reduceMul]
                exact ⟨hin, by omega, e - 1, by omega, k + 1, _, by omega, by simp, hfin _ rfl, hpu⟩
              | cons b0 r =>
                rw [hr] at hgd hfin hpu hrla
                simp only[rawRow] at hgd
                simp only[List.length_cons] at hrla
                simp (disch:=first|assumption|omega) only[e104,e103,e15,e88,e87,e0,e7,e13,e14,e12,eh,h0,hin',hge2,hgd,hglm,Nat.mul_one,hfill,List.length_set,ni_length,go_sem,↓reduceIte,Nat.reduceEqDiff,reduceCtorEq,Nat.reduceLeDiff,reduceIte]
                exact ⟨hin, by omega, by omega, by omega, e - 1, by omega, k + 1, _, by omega, by simp, hfin _ (by simp [rawRow, ni, ints]), hpu⟩
            · have ht1 : touch (T.wish i) (T.of k) = false := by
                unfold touch
                rw [decide_eq_false_iff_not]; omega
              have hsk := hg.skip (k := k) (by simp [ht1])
              simp (disch:=first|assumption|omega) only[e104,e103,e15,e88,e87,e0,e7,e13,e14,e12,eh,h0,go_sem,↓reduceIte,Nat.reduceEqDiff,reduceCtorEq,reduceIte]
              exact ⟨e - 1, by omega, k + 1, g, by omega, by simp, rfl, hsk⟩
        · obtain rfl : n = k := by omega
          simp (disch:=first|assumption|omega) only[e104,e103,e88,e87,e0,e7,e13,e14,e12,eh,hlk,go_sem,↓reduceIte,Nat.reduceEqDiff,reduceCtorEq,reduceIte]
          exact ⟨d - 1, by omega, i + 1, .app 1, .app 1, X, Y, g, by omega, by simp, rfl, rfl, rfl, hg.row, .inr ⟨rfl, rfl⟩, hX2, hY2⟩
      · skip
        simp only[e88,e87,e7,e13,hlt,go_sem,↓reduceIte,Nat.reduceEqDiff,reduceIte]
        refine callG_ok (CellsLv i _ rfl T hI (by omega) tid [] _ (by simp only[eh,go_sem]; exact hLg _)) (by simp only[go_sem]) ?_
        rintro _ _ ⟨⟨o1, rfl, ho1⟩, hhh⟩
        rw [hhh]
        clear hhh
        obtain ⟨r1, hr1, hc1, hro1⟩ := cel_made ho1
        simp only[e7,e14,hr1,go_sem,↓reduceIte,Nat.reduceEqDiff,Nat.reduceLeDiff,reduceIte,Int.reduceMul,Nat.reduceMul]
        refine ⟨by omega, by omega, ?_⟩
        refine callG_ok (WaitsLv i _ rfl T hI (by omega) (by omega) tid [] _ (by simp only[eh,go_sem]; exact hLg _)) (by simp only[go_sem]) ?_
        rintro _ _ ⟨⟨o2, rfl, ho2⟩, hhh⟩
        rw [hhh]
        clear hhh
        obtain ⟨r2, hr2, hc2, hro2⟩ := cel_made ho2
        simp only[e0,hr2,go_sem,↓reduceIte,Nat.reduceEqDiff,reduceCtorEq,Nat.reduceLeDiff,reduceIte,Int.reduceMul,Nat.reduceMul]
        refine ⟨by omega, by omega, ?_⟩
        have hX2 : Each2 CelOk ((List.range (i + 1)).map T.of) (xs ++ [AVal.lst r1 (cellsA (T.of i))]) := by rw [hrs]; exact hx.append (Each2.one hc1)
        have hY2 : Each2 CelOk ((List.range (i + 1)).map T.wish) (ys ++ [AVal.lst r2 (cellsA (T.wish i))]) := by rw [hrw]; exact hy.append (Each2.one hc2)
        refine aw_count (fun e S => ∃ (k : Nat) (g : Gr), k + e = n ∧ S.env 104 = .int .i64 k ∧ S.env 103 = .int .i64 n ∧ S.env 15 = .int .i64 i ∧ S.env 88 = .int .i64 i ∧ S.env 87 = .int .i64 n ∧ S.env 0 = .int .i64 n ∧ S.env 7 = .hp tid 0 ∧ S.env 13 = .lst (.app 1) (xs ++ [AVal.lst r1 (cellsA (T.of i))]) ∧ S.env 14 = .lst (.app 1) (ys ++ [AVal.lst r2 (cellsA (T.wish i))]) ∧ S.env 12 = .ref H.length 0 n n ∧ S.heap = H ++ [.cells (g.map rawRow)] ∧ GrW T n i k g) (n := n)
          ⟨0, g, by omega, by simp only[go_sem,↓reduceIte,reduceIte], by simp only[go_sem,↓reduceIte,Nat.reduceEqDiff,reduceIte], by simp only[go_sem,↓reduceIte,Nat.reduceEqDiff,reduceIte], by simp only[e88,go_sem,↓reduceIte,Nat.reduceEqDiff,reduceIte], by simp only[e87,go_sem,↓reduceIte,Nat.reduceEqDiff,reduceIte], by simp only[e0,go_sem,↓reduceIte,reduceCtorEq,reduceIte], by simp only[e7,go_sem,↓reduceIte,Nat.reduceEqDiff,reduceIte], by simp only[go_sem,↓reduceIte,Nat.reduceEqDiff,reduceIte]; try rfl, by simp only[go_sem,↓reduceIte,Nat.reduceEqDiff,reduceIte]; try rfl, by simp only[e12,go_sem,↓reduceIte,Nat.reduceEqDiff,reduceIte], by simp only[eh,go_sem], hg⟩ ?_
        generalize hXS : xs ++ [AVal.lst r1 (cellsA (T.of i))] = X at *
        generalize hYS : ys ++ [AVal.lst r2 (cellsA (T.wish i))] = Y at *
        clear e88 e87 e0 e7 e13 e14 e12 eh hg
        clear g
        rintro e S ⟨k, g, hk, e104, e103, e15, e88, e87, e0, e7, e13, e14, e12, eh, hg⟩
        by_cases hlk : (k : Int) < n
        · have hkn : k < n := by omega
          by_cases hki : k = i
          · subst hki
            have hself : (((k : Nat) : Int) = k) = True := eq_self _
            have hsk := hg.skip (by simp)
            simp (disch:=first|assumption|omega) only[e104,e103,e15,e88,e87,e0,e7,e13,e14,e12,eh,hlk,go_sem,↓reduceIte,Nat.reduceEqDiff,reduceCtorEq,reduceIte]
            exact ⟨e - 1, by omega, k + 1, g, by omega, by simp, rfl, hsk⟩
          · have hki' : ¬((k : Nat) : Int) = i := by omega
            simp only[e104,e103,e15,e7,hlk,hki',go_sem,↓reduceIte,Nat.reduceEqDiff,reduceIte]
            refine callG_ok (WaitsLv i _ rfl T hI (by omega) (by omega) tid [] _ (by simp only[eh,go_sem]; exact hLg _)) (by simp only[go_sem]) ?_
            rintro _ _ ⟨⟨o3, rfl, ho3⟩, hhh⟩
            rw [hhh]
            clear hhh
            obtain ⟨r3, hq3, hr3⟩ := rd_made ho3
            simp only[e7,go_sem,↓reduceIte,Nat.reduceEqDiff,reduceIte]
            refine callG_ok (CellsLv k _ rfl T hI (by omega) tid [] _ (by simp only[eh,go_sem]; exact hLg _)) (by simp only[go_sem]) ?_
            rintro _ _ ⟨⟨o4, rfl, ho4⟩, hhh⟩
            rw [hhh]
            clear hhh
            have hck := (fault_up (hI.ok k)).1
            obtain ⟨r4, hq4, hr4⟩ := rd_made ho4
            simp only[hr3,hr4,go_sem,↓reduceIte,Nat.reduceEqDiff,reduceIte]
            refine callG_ok (Meet_ok r3 r4 (T.wish i) (T.of k) hq3 hq4 (by omega) _) (by simp only[go_sem]) ?_
            rintro _ _ ⟨rfl, hhh⟩
            rw [hhh]
            clear hhh
            by_cases h0 : (0 : Int) < (meetC (T.wish i) (T.of k)).length
            · have ht1 : touch (T.wish i) (T.of k) = true := by
                unfold touch
                rw [decide_eq_true_iff]; omega
              have hpu := hg.push hin (k := k) (by simp [ht1, hki])
              have hge : S.heap[H.length]? = some (.cells (g.map rawRow)) := by rw [eh, hpx_get0]; rfl
              have hge2 : (H ++ [HObj.cells (g.map rawRow)])[H.length]? = some (.cells (g.map rawRow)) := by rw [hpx_get0]; rfl
              have hglm : (g.map rawRow).length = n := by rw [List.length_map]; exact hg.1
              have hgl := hg.1
              have hgd : (g.map rawRow).getD i .junk = rawRow (nx g i) := by
                have : i < g.length := by omega
                simp [List.getD_eq_getElem?_getD, nx, this]
              have hfill : ∀ y v : AVal, fillV ((g.map rawRow).set i y) i [v] = (g.map rawRow).set i v := fun y v => by
                have := fillV_one (xs := (g.map rawRow).set i y) (a := i) (x := v) (by rw [List.length_set, hglm]; exact hin)
                rw [Nat.mul_one] at this
                rw [this, List.set_set]
              have hfin : ∀ v, v = rawRow (nx g i ++ [k]) → H ++ [HObj.cells ((g.map rawRow).set i v)] = H ++ [.cells ((g.set i (nx g i ++ [k])).map rawRow)] := by
                rintro v rfl
                rw [List.map_set]
              have hrla : (nx g i).length ≤ 4 := by
                rw [hg.2, if_neg (by omega), if_pos rfl]
                have := rowW_len T i k
                omega
              have hin' : (i : Int) < n := by omega
              cases hr : nx g i with
              | nil =>
                rw [hr] at hgd hfin hpu
                simp only[rawRow] at hgd
                simp (disch:=first|assumption|omega) only[e104,e103,e15,e88,e87,e0,e7,e13,e14,e12,eh,h0,hin',hge2,hgd,hglm,Nat.mul_one,hfill,List.length_set,go_sem,↓reduceIte,Nat.reduceEqDiff,reduceCtorEq,Nat.reduceLeDiff,reduceIte,Int.reduceMul,Nat.reduceMul]
                exact ⟨hin, by omega, e - 1, by omega, k + 1, _, by omega, by simp, hfin _ rfl, hpu⟩
              | cons b0 r =>
                rw [hr] at hgd hfin hpu hrla
                simp only[rawRow] at hgd
                simp only[List.length_cons] at hrla
                simp (disch:=first|assumption|omega) only[e104,e103,e15,e88,e87,e0,e7,e13,e14,e12,eh,h0,hin',hge2,hgd,hglm,Nat.mul_one,hfill,List.length_set,ni_length,go_sem,↓reduceIte,Nat.reduceEqDiff,reduceCtorEq,Nat.reduceLeDiff,reduceIte]
                exact ⟨hin, by omega, by omega, by omega, e - 1, by omega, k + 1, _, by omega, by simp, hfin _ (by simp [rawRow, ni, ints]), hpu⟩
            · have ht1 : touch (T.wish i) (T.of k) = false := by
                unfold touch
                rw [decide_eq_false_iff_not]; omega
              have hsk := hg.skip (k := k) (by simp [ht1])
              simp (disch:=first|assumption|omega) only[e104,e103,e15,e88,e87,e0,e7,e13,e14,e12,eh,h0,go_sem,↓reduceIte,Nat.reduceEqDiff,reduceCtorEq,reduceIte]
              exact ⟨e - 1, by omega, k + 1, g, by omega, by simp, rfl, hsk⟩
        · obtain rfl : n = k := by omega
          simp (disch:=first|assumption|omega) only[e104,e103,e88,e87,e0,e7,e13,e14,e12,eh,hlk,go_sem,↓reduceIte,Nat.reduceEqDiff,reduceCtorEq,reduceIte]
          exact ⟨d - 1, by omega, i + 1, .app 1, .app 1, X, Y, g, by omega, by simp, rfl, rfl, rfl, hg.row, .inr ⟨rfl, rfl⟩, hX2, hY2⟩
    · obtain rfl : n = i := by omega
      obtain ⟨rfl, rfl⟩ := hq.resolve_left (fun e => by omega)
      rw [← hTn, map_of] at hx
      rw [← hTn] at hy
      have hm0' : ¬n = 0 := by omega
      have hglm : (g.map rawRow).length = n := by rw [List.length_map]; exact hg.1
      have hge : S.heap[H.length]? = some (.cells (g.map rawRow)) := by rw [eh, hpx_get0]; rfl
      have hch : chunkV false 1 ((g.map rawRow).map Ge.rdc) n = (g.map rawRow).map Ge.rdc := by
        have := chunk_flat' (ag := false) (sz := 1) ((g.map rawRow).map Ge.rdc) [] ?_ (fun e => by cases e) ?_ (fun _ => rfl)
        · rw [List.append_nil, raw_flat, List.length_map, hglm] at this
          exact this
        · intro x hx; rw [List.map_map] at hx; obtain ⟨r, _, rfl⟩ := List.mem_map.1 hx; simp only[Function.comp,rdc_raw]; rfl
        · intro _ x hx; rw [List.map_map] at hx; obtain ⟨r, _, rfl⟩ := List.mem_map.1 hx; simp only[Function.comp,rdc_raw]; rfl
      have htk : (g.map rawRow).take n = g.map rawRow := List.take_of_length_le (by omega)
      have hfine := hg.fine hn4
      have hst := stuck_none hI hg
      simp only[e88,e87,hlt,go_sem,↓reduceIte,reduceIte]
      rw [aw_own]
      simp only[e12,eh,hm0',hglm,Nat.mul_one,Nat.zero_add,List.drop_zero,htk,hch,go_sem,↓reduceIte,Nat.reduceEqDiff,Nat.reduceLT,reduceIte,Int.reduceLT]
      refine ⟨Nat.le_refl _, Nat.le_refl _, ?_, ?_⟩
      · rw [List.all_eq_true]
        intro x hx
        obtain ⟨r, _, rfl⟩ := List.mem_map.1 hx
        rw [rdc_raw]
        split <;> rfl
      rw [aw_grab]
      simp only[go_sem,↓reduceIte,reduceIte]
      refine callG_ok (Find_ok .sh g ((g.map rawRow).map Ge.rdc) (.inl rfl) hfine (raw_rows g) _) (by simp only[go_sem]) ?_
      rintro _ _ ⟨hq, hhh⟩
      rw [hhh]
      clear hhh
      obtain ⟨_, rfl⟩ := hq.resolve_right (fun ⟨_, _, _, _, e, _⟩ => by rw [hst] at e; cases e)
      simp only[e13,e14,go_sem,↓reduceIte,Nat.reduceEqDiff,Nat.reduceAdd,Nat.reduceLT,reduceIte,Int.reduceLT,Int.reduceAdd]
      obtain ⟨r, hsv, hrl⟩ := safe_wishes hI (by omega)
      refine callG_ok (Safe_ok .sh .sh T.has (wishes T T.has.length) xs ys (.inl rfl) (.inl rfl) hx hy (by omega) (by simp [wishes]; omega) (fun r hr => ?_) (fun r hr => ?_) _) (by simp only[go_sem]) ?_
      · obtain ⟨k, hk, rfl⟩ := List.mem_iff_getElem.1 hr
        have := hI.len4 k
        rw [getD_at hk] at this
        omega
      · obtain ⟨k, hk, rfl⟩ := List.mem_map.1 hr
        have := (fault_up (wish_fault hI k)).1
        omega
      rintro _ _ ⟨⟨q, rfl, hq⟩, hhh⟩
      rw [hhh]
      clear hhh
      rw [hsv] at hq ⊢
      obtain rfl : q = .app 1 := by
        rcases hq with ⟨_, h⟩ | h
        · simp only at h; rw [h] at hrl; simp at hrl; omega
        · exact h
      have hnl : (nats r).length = n := by rw [nats_length, hrl, hTn]
      simp only[]
      simp only[e0,hnl,go_sem,↓reduceIte,Nat.reduceEqDiff,reduceCtorEq,Nat.reduceAdd,Nat.reduceLT,reduceIte,Int.reduceLT,Int.reduceAdd]
      subst hQ
      simp only[R.ganttop_TopWaits,go_sem,↓reduceIte,reduceIte]
end Go.Proofs.Ytpdajkbfemcdlaa
