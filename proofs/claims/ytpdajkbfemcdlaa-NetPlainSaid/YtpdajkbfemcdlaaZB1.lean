import Derived.Test.YtpdajkbfemcdlaaGeSet
import Derived.Test.YtpdajkbfemcdlaaZA1
set_option linter.unusedSimpArgs false
set_option linter.unusedVariables false
set_option maxRecDepth 10000
namespace Go.Proofs.Ytpdajkbfemcdlaa
open Go.Ge
def ownB : Bool → Own
  | true => .sh
  | false => .nil
theorem ownB_rdo (b : Bool) : Rdo (ownB b) := by cases b; exact .inr rfl; exact .inl rfl
theorem own_cases {q : Own} {l : List Cell} (h : Rdn q l) : ∃ b, q = ownB b ∧ (b = false → l = []) := by
  rcases h.1 with rfl | rfl
  · exact ⟨true, rfl, fun e => by cases e⟩
  · exact ⟨false, rfl, fun _ => h.2 rfl⟩
def mgC (x : Bool × Msg) : List AVal := msgC (ownB x.1) x.2
theorem mgC_st (x : Bool × Msg) : ∀ c ∈ mgC x, storC c = true ∧ Ge.rdc c = c := by
  intro c hc
  simp only[mgC,msgC,List.mem_cons,List.not_mem_nil,or_false] at hc
  rcases hc with rfl | rfl | rfl | rfl | rfl | rfl <;> first | exact ⟨rfl, rfl⟩ | (cases x.1 <;> exact ⟨rfl, rfl⟩)
end Go.Proofs.Ytpdajkbfemcdlaa
namespace Go.Proofs.Ytpdajkbfemcdlaa
open Go.Ge
abbrev Fl := Bool × Msg × Int
def flC (x : Fl) : List AVal := .int .i64 x.2.2 :: msgC (ownB x.1) x.2.1
theorem flC_len (x : Fl) : (flC x).length = 7 := rfl
theorem flC_st (x : Fl) : ∀ c ∈ flC x, storC c = true ∧ Ge.rdc c = c := by
  intro c hc
  rcases List.mem_cons.1 hc with rfl | hc
  · exact ⟨rfl, rfl⟩
  · exact mgC_st (x.1, x.2.1) c hc
theorem flC_rdc (x : Fl) : (flC x).map Ge.rdc = flC x := by
  conv => rhs; rw [← List.map_id (flC x)]
  exact List.map_congr_left fun c hc => (flC_st x c hc).2
theorem flC_all (x : Fl) : (flC x).all storC = true := List.all_eq_true.2 fun c hc => (flC_st x c hc).1
theorem rowGet {L : List Fl} {rest : List AVal} {j : Nat} (h : j < L.length) : ((L.flatMap flC ++ rest).drop (j * 7)).take 7 = flC L[j] := by
  have := flatF_get (f := flC) (sz := 7) flC_len h (pre := []) (rest := rest) (off := 0) (k := 0) (n := 7) rfl (by omega)
  simp only[List.nil_append,Nat.zero_add,Nat.add_zero,List.drop_zero] at this
  rw [this]; rfl
theorem rowSet {L : List Fl} {rest : List AVal} {j : Nat} (x : Fl) (h : j < L.length) : fillV (L.flatMap flC ++ rest) (j * 7) (flC x) = (L.set j x).flatMap flC ++ rest := by
  have := flatF_set (f := flC) (sz := 7) flC_len h (pre := []) (rest := rest) (off := 0) (k := 0) rfl (vs := flC x) (x := x) (by rw [flC_len]; omega) (by
    unfold fillV
    rw [flC_len, List.take_zero, List.drop_of_length_le (by rw [flC_len]; omega)]; simp)
  simp only[List.nil_append,Nat.zero_add,Nat.add_zero] at this
  exact this
theorem rowLen (L : List Fl) (rest : List AVal) : (L.flatMap flC ++ rest).length = L.length * 7 + rest.length := by
  rw [List.length_append, flatF_len flC_len]
theorem swap_perm {L : List Fl} {i j : Nat} (hi : i < L.length) (hj : j < L.length) : ((L.set i L[j]).set j L[i]).Perm L := by
  have := Array.swap_perm (xs := L.toArray) (i := i) (j := j) (by simpa using hi) (by simpa using hj)
  have h2 := this.toList
  simpa using h2
theorem swapRange_ok (f : Nat) (L : List Fl) (N : Nat) (hN : L.length = N) (id cap a b m : Nat) (rest : List AVal) (h : List HObj) (hid : h[id]? = some (.cells (L.flatMap flC ++ rest))) (ha : a + m ≤ N) (hb : b + m ≤ N) (hn : N ≤ 1099511627776) :
    ACalls Try.prog F.slices_swapRangeCmpFunc_sent [.ref id 0 N cap, .int .i64 a, .int .i64 b, .int .i64 m, .func f []] h
      (fun v h' => v = .tup [] ∧ ∃ L' : List Fl, L'.Perm L ∧ h' = h.set id (.cells (L'.flatMap flC ++ rest))) := by
  subst hN
  have hidl : id < h.length := (List.getElem?_eq_some_iff.1 hid).1
  refine ACalls.of_aw Try.func239 K.slices_swapRangeCmpFunc_sent (by simp [Try.f239]) ?_
  generalize hQ : retQ R.slices_swapRangeCmpFunc_sent _ = Q
  simp (disch:=first|assumption|omega) only[C.slices_swapRangeCmpFunc_sent,go_sem]
  refine aw_count (fun d S => ∃ (i : Nat) (L' : List Fl), i + d = m ∧ S.env 10 = .int .i64 i ∧ S.env 0 = .ref id 0 L.length cap ∧ S.env 1 = .int .i64 a ∧ S.env 2 = .int .i64 b ∧ S.env 3 = .int .i64 m ∧ L'.Perm L ∧ S.heap = h.set id (.cells (L'.flatMap flC ++ rest))) (n := m)
    ⟨0, L, by omega, by simp (disch:=first|assumption|omega) only[go_sem,↓reduceIte,reduceIte], by simp (disch:=first|assumption|omega) only[go_sem,↓reduceIte,reduceCtorEq,reduceIte], by simp (disch:=first|assumption|omega) only[go_sem,↓reduceIte,Nat.reduceEqDiff,reduceIte], by simp (disch:=first|assumption|omega) only[go_sem,↓reduceIte,Nat.reduceEqDiff,reduceIte], by simp (disch:=first|assumption|omega) only[go_sem,↓reduceIte,Nat.reduceEqDiff,reduceIte], List.Perm.refl _, by simp (disch:=first|assumption|omega) only[go_sem]; rw [setH_same hid]⟩ ?_
  rintro d S ⟨i, L', hi, e10, e0, e1, e2, e3, hp, eh⟩
  have hl' := hp.length_eq
  by_cases hlt : (i : Int) < m
  · have hget : (h.set id (.cells (L'.flatMap flC ++ rest)))[id]? = some (.cells (L'.flatMap flC ++ rest)) := List.getElem?_set_self hidl
    have ja : a + i < L'.length := by omega
    have jb : b + i < L'.length := by omega
    have q1 := rowGet (rest := rest) ja
    have q2 := rowGet (rest := rest) jb
    have hlen := rowLen L' rest
    have k1 : (((a : Nat) : Int) + i).toNat = a + i := by omega
    have k2 : (((b : Nat) : Int) + i).toNat = b + i := by omega
    have s1 := rowSet (rest := rest) L'[b + i] ja
    have hl2 : (L'.set (a + i) L'[b + i]).length = L'.length := List.length_set
    have s2 := rowSet (L := L'.set (a + i) L'[b + i]) (rest := rest) (j := b + i) L'[a + i] (by omega)
    have hget2 : (h.set id (.cells ((L'.set (a + i) L'[b + i]).flatMap flC ++ rest)))[id]? = some (.cells ((L'.set (a + i) L'[b + i]).flatMap flC ++ rest)) := List.getElem?_set_self hidl
    have hlen2 := rowLen (L'.set (a + i) L'[b + i]) rest
    simp (disch:=first|assumption|omega) only[e10,e0,e1,e2,e3,eh,hlt,hget,q1,q2,k1,k2,hlen,flC_rdc,flC_all,flC_len,s1,s2,List.set_set,hget2,hlen2,hl2,go_sem,↓reduceIte,Nat.reduceEqDiff,reduceCtorEq,Nat.reduceLeDiff,reduceIte]
    exact ⟨⟨by omega, by omega⟩, by omega, ⟨by omega, by omega⟩, by omega, ⟨by omega, by omega⟩, by omega, ⟨by omega, by omega⟩, by omega, d - 1, by omega, i + 1, _, by omega, by simp, (swap_perm ja jb).trans hp, rfl⟩
  · simp only[e10,e3,hlt,go_sem,↓reduceIte,Nat.reduceEqDiff,reduceIte]
    subst hQ
    simp only[R.slices_swapRangeCmpFunc_sent,eh,go_sem]
    exact ⟨L', hp, rfl⟩
theorem rotate_ok (f : Nat) (L : List Fl) (N : Nat) (hN : L.length = N) (id cap a m b : Nat) (rest : List AVal) (h : List HObj) (hid : h[id]? = some (.cells (L.flatMap flC ++ rest))) (ha : a < m) (hm : m < b) (hb : b ≤ N) (hn : N ≤ 1099511627776) :
    ACalls Try.prog F.slices_rotateCmpFunc_sent [.ref id 0 N cap, .int .i64 a, .int .i64 m, .int .i64 b, .func f []] h
      (fun v h' => v = .tup [] ∧ ∃ L' : List Fl, L'.Perm L ∧ h' = h.set id (.cells (L'.flatMap flC ++ rest))) := by
  subst hN
  have hidl : id < h.length := (List.getElem?_eq_some_iff.1 hid).1
  refine ACalls.of_aw Try.func231 K.slices_rotateCmpFunc_sent (by simp [Try.f231]) ?_
  generalize hQ : retQ R.slices_rotateCmpFunc_sent _ = Q
  simp only[C.slices_rotateCmpFunc_sent,go_sem,↓reduceIte,Nat.reduceEqDiff,reduceIte]
  refine aw_count (fun d S => ∃ (i j : Nat) (L' : List Fl), i + j = d ∧ 1 ≤ i ∧ 1 ≤ j ∧ a + i ≤ m ∧ m + j ≤ b ∧ S.env 10 = .int .i64 i ∧ S.env 11 = .int .i64 j ∧ S.env 0 = .ref id 0 L.length cap ∧ S.env 2 = .int .i64 m ∧ S.env 4 = .func f [] ∧ L'.Perm L ∧ S.heap = h.set id (.cells (L'.flatMap flC ++ rest))) (n := (m - a) + (b - m))
    ⟨m - a, b - m, L, rfl, by omega, by omega, by omega, by omega, by simp (disch:=first|assumption|omega) only[go_sem,↓reduceIte,Nat.reduceEqDiff,reduceIte]; congr 1; omega, by simp (disch:=first|assumption|omega) only[go_sem,↓reduceIte,reduceIte]; congr 1; omega, by simp (disch:=first|assumption|omega) only[go_sem,↓reduceIte,reduceCtorEq,reduceIte], by simp (disch:=first|assumption|omega) only[go_sem,↓reduceIte,Nat.reduceEqDiff,reduceIte], by simp (disch:=first|assumption|omega) only[go_sem,↓reduceIte,Nat.reduceEqDiff,reduceIte], List.Perm.refl _, by simp (disch:=first|assumption|omega) only[go_sem]; rw [setH_same hid]⟩ ?_
  rintro d S ⟨i, j, L', hd, hi, hj, hia, hjb, e10, e11, e0, e2, e4, hp, eh⟩
  have hl' := hp.length_eq
  have hget : (h.set id (.cells (L'.flatMap flC ++ rest)))[id]? = some (.cells (L'.flatMap flC ++ rest)) := List.getElem?_set_self hidl
  have call : ∀ (H : List HObj) (x y z : Nat) (p q r : Int), H = h.set id (.cells (L'.flatMap flC ++ rest)) → p = x → q = y → r = z → x + z ≤ L.length → y + z ≤ L.length → ACalls Try.prog F.slices_swapRangeCmpFunc_sent [.ref id 0 L.length cap, .int .i64 p, .int .i64 q, .int .i64 r, .func f []] H (fun v h' => v = .tup [] ∧ ∃ L2 : List Fl, L2.Perm L ∧ h' = h.set id (.cells (L2.flatMap flC ++ rest))) := by
    rintro _ x y z _ _ _ rfl rfl rfl rfl h1 h2
    refine ACalls.mono (swapRange_ok f L' L.length hl' id cap x y z rest _ hget h1 h2 hn) fun v h' ⟨e1, L2, e2, e3⟩ => ⟨e1, L2, e2.trans hp, by rw [e3, List.set_set]⟩
  by_cases hij : i = j
  · subst hij
    have hself : (((i : Nat) : Int) = i) = True := eq_self _
    simp (disch:=first|assumption|omega) only[e10,e11,e0,e2,e4,go_sem,↓reduceIte,Nat.reduceEqDiff,reduceCtorEq,reduceIte]
    refine callG_ok (call _ (m - i) m i ((m : Int) - i) m i (by simp (disch:=first|assumption|omega) only[eh,go_sem]) (by omega) rfl rfl (by omega) (by omega)) (by simp (disch:=first|assumption|omega) only[go_sem]) ?_
    rintro _ _ ⟨rfl, L2, hp2, hhh⟩
    rw [hhh]
    clear hhh
    simp only[go_sem]
    subst hQ
    simp (disch:=first|assumption|omega) only[R.slices_rotateCmpFunc_sent,go_sem]
    exact ⟨L2, hp2, rfl⟩
  · have hij' : ¬ ((i : Nat) : Int) = j := by omega
    by_cases hgt : j < i
    · have hgt' : (j : Int) < i := by omega
      simp (disch:=first|assumption|omega) only[e10,e11,e0,e2,e4,hij',hgt',go_sem,↓reduceIte,Nat.reduceEqDiff,reduceCtorEq,reduceIte]
      refine callG_ok (call _ (m - i) m j ((m : Int) - i) m j (by simp (disch:=first|assumption|omega) only[eh,go_sem]) (by omega) rfl rfl (by omega) (by omega)) (by simp (disch:=first|assumption|omega) only[go_sem]) ?_
      rintro _ _ ⟨rfl, L2, hp2, hhh⟩
      rw [hhh]
      clear hhh
      simp (disch:=first|assumption|omega) only[e10,e11,e0,e2,e4,go_sem,↓reduceIte,Nat.reduceEqDiff,reduceCtorEq,reduceIte]
      exact ⟨i - j + j, by omega, i - j, j, L2, rfl, by omega, by omega, by omega, by omega, by congr 1; omega, rfl, hp2, rfl⟩
    · have hgt' : ¬ (j : Int) < i := by omega
      simp (disch:=first|assumption|omega) only[e10,e11,e0,e2,e4,hij',hgt',go_sem,↓reduceIte,Nat.reduceEqDiff,reduceCtorEq,reduceIte]
      refine callG_ok (call _ (m - i) (m + j - i) i ((m : Int) - i) ((m : Int) + j - i) i (by simp (disch:=first|assumption|omega) only[eh,go_sem]) (by omega) (by omega) rfl (by omega) (by omega)) (by simp (disch:=first|assumption|omega) only[go_sem]) ?_
      rintro _ _ ⟨rfl, L2, hp2, hhh⟩
      rw [hhh]
      clear hhh
      simp (disch:=first|assumption|omega) only[e10,e11,e0,e2,e4,go_sem,↓reduceIte,Nat.reduceEqDiff,reduceCtorEq,reduceIte]
      exact ⟨i + (j - i), by omega, i, j - i, L2, rfl, by omega, by omega, by omega, by omega, rfl, by congr 1; omega, hp2, rfl⟩
end Go.Proofs.Ytpdajkbfemcdlaa
namespace Go.Proofs.Ytpdajkbfemcdlaa
open Go.Ge
def CmpF (f : Nat) : Prop := ∀ (a b : Fl) (h : List HObj), ACalls Try.prog f [.agg (flC a), .agg (flC b)] h (fun v h' => (∃ n, v = .int .i64 n) ∧ h' = h)
theorem half_sum {a b : Nat} (h : a + b < 9223372036854775808) : IntKind.i64.wrap (Int.fdiv ((a : Int) + b) (2 ^ min (Int.toNat 1) 64)) = (((a + b) / 2 : Nat) : Int) := by
  rw [show ((2 : Int) ^ min (Int.toNat 1) 64) = 2 from rfl, Int.fdiv_eq_ediv_of_nonneg _ (by omega), wrapI64 (by omega) (by omega)]
  omega
def PermQ (L : List Fl) (id : Nat) (rest : List AVal) (h : List HObj) (v : AVal) (h' : List HObj) : Prop := v = .tup [] ∧ ∃ L' : List Fl, L'.Perm L ∧ h' = h.set id (.cells (L'.flatMap flC ++ rest))
def SymS (N id cap a b c i e f : Nat) (L : List Fl) (rest : List AVal) (h : List HObj) (S : AState) : Prop := S.env 0 = .ref id 0 N cap ∧ S.env 1 = .int .i64 a ∧ S.env 3 = .int .i64 b ∧ S.env 4 = .func f [] ∧ S.env 18 = .int .i64 c ∧ S.env 20 = .int .i64 i ∧ S.env 24 = .int .i64 e ∧ ∃ L' : List Fl, L'.Perm L ∧ S.heap = h.set id (.cells (L'.flatMap flC ++ rest))
theorem symMerge_ok (f : Nat) (hf : CmpF f) (id cap N : Nat) (rest : List AVal) (hn : N ≤ 1099511627776) : ∀ (n : Nat) (a m b : Nat) (L : List Fl) (h : List HObj), b - a ≤ n → a < m → m < b → b ≤ N → L.length = N → h[id]? = some (.cells (L.flatMap flC ++ rest)) →
    ACalls Try.prog F.slices_symMergeCmpFunc_sent [.ref id 0 N cap, .int .i64 a, .int .i64 m, .int .i64 b, .func f []] h (PermQ L id rest h) := by
  intro n
  induction n with
  | zero => intro a m b L h h1 h2 h3; omega
  | succ n ih =>
  intro a m b L h hba ham hmb hbN hL hid
  have hidl : id < h.length := (List.getElem?_eq_some_iff.1 hid).1
  refine ACalls.of_aw Try.func217 K.slices_symMergeCmpFunc_sent (by simp [Try.f217]) ?_
  generalize hQ : retQ R.slices_symMergeCmpFunc_sent _ = Q
  simp (disch:=first|assumption|omega) only[C.slices_symMergeCmpFunc_sent,go_sem,↓reduceIte,Nat.reduceEqDiff,reduceIte]
  by_cases hm1 : m - a = 1
  · have hm1' : (m : Int) - a = 1 := by omega
    simp (disch:=first|assumption|omega) only[hm1',go_sem,↓reduceIte,Nat.reduceEqDiff,reduceIte]
    refine aw_count (fun d S => ∃ (i j : Nat), j - i = d ∧ m ≤ i ∧ i ≤ j ∧ j ≤ b ∧ S.env 10 = .int .i64 i ∧ S.env 11 = .int .i64 j ∧ S.env 0 = .ref id 0 N cap ∧ S.env 1 = .int .i64 a ∧ S.env 4 = .func f [] ∧ S.heap = h) (n := b - m)
      ⟨m, b, rfl, by omega, by omega, by omega, by simp (disch:=first|assumption|omega) only[go_sem,↓reduceIte,Nat.reduceEqDiff,reduceIte], by simp (disch:=first|assumption|omega) only[go_sem,↓reduceIte,reduceIte], by simp (disch:=first|assumption|omega) only[go_sem,↓reduceIte,reduceCtorEq,reduceIte], by simp (disch:=first|assumption|omega) only[go_sem,↓reduceIte,Nat.reduceEqDiff,reduceIte], by simp (disch:=first|assumption|omega) only[go_sem,↓reduceIte,Nat.reduceEqDiff,reduceIte], by simp (disch:=first|assumption|omega) only[go_sem]⟩ ?_
    rintro d S ⟨i, j, hd, hmi, hij, hjb, e10, e11, e0, e1, e4, eh⟩
    by_cases hlt : (i : Int) < j
    · have hh := half_sum (a := i) (b := j) (by omega)
      obtain ⟨c, hc⟩ : ∃ c, c = (i + j) / 2 := ⟨_, rfl⟩
      rw [← hc] at hh
      have hcl : c < L.length := by omega
      have hal : a < L.length := by omega
      have q1 := rowGet (rest := rest) hcl
      have q2 := rowGet (rest := rest) hal
      have hlen := rowLen L rest
      simp (disch:=first|assumption|omega) only[e10,e11,e0,e1,e4,eh,hlt,hh,hid,q1,q2,hlen,flC_rdc,go_sem,↓reduceIte,Nat.reduceEqDiff,reduceCtorEq,Nat.reduceLeDiff,reduceIte,Int.reduceLE]
      refine ⟨by omega, by omega, by omega, by omega, ?_⟩
      refine callvqG_ok (hf L[c] L[a] _) (by simp (disch:=first|assumption|omega) only[go_sem]) ?_
      rintro _ _ ⟨⟨w, rfl⟩, hhh⟩
      rw [hhh]
      clear hhh
      refine ⟨rfl, ?_⟩
      by_cases hw : w < 0
      · simp (disch:=first|assumption|omega) only[e11,e0,e1,e4,eh,hw,go_sem,↓reduceIte,Nat.reduceEqDiff,reduceCtorEq,reduceIte]
        exact ⟨j - (c + 1), by omega, c + 1, j, rfl, by omega, by omega, by omega, by simp, rfl⟩
      · simp only[e10,e0,e1,e4,eh,hw,go_sem,↓reduceIte,Nat.reduceEqDiff,reduceCtorEq,reduceIte]
        exact ⟨c - i, by omega, i, c, rfl, by omega, by omega, by omega, rfl, rfl⟩
    · simp only[e10,e11,e1,hlt,go_sem,↓reduceIte,Nat.reduceEqDiff,reduceIte]
      refine aw_count (fun d S => ∃ (k : Nat) (L' : List Fl), (i - 1) - k = d ∧ a ≤ k ∧ k < i ∧ S.env 13 = .int .i64 k ∧ S.env 10 = .int .i64 i ∧ S.env 0 = .ref id 0 N cap ∧ L'.Perm L ∧ S.heap = h.set id (.cells (L'.flatMap flC ++ rest))) (n := (i - 1) - a)
        ⟨a, L, rfl, by omega, by omega, by simp only[go_sem,↓reduceIte,reduceIte], by simp only[e10,go_sem,↓reduceIte,Nat.reduceEqDiff,reduceIte], by simp only[e0,go_sem,↓reduceIte,reduceCtorEq,reduceIte], List.Perm.refl _, by simp only[eh,go_sem]; rw [setH_same hid]⟩ ?_
      rintro d S ⟨k, L', hd, hak, hki, e13, e10, e0, hp, eh⟩
      have hl' := hp.length_eq
      by_cases hlt2 : (k : Int) < i - 1
      · have hget : (h.set id (.cells (L'.flatMap flC ++ rest)))[id]? = some (.cells (L'.flatMap flC ++ rest)) := List.getElem?_set_self hidl
        have ja : k < L'.length := by omega
        have jb : k + 1 < L'.length := by omega
        have q1 := rowGet (rest := rest) ja
        have q2 := rowGet (rest := rest) jb
        have hlen := rowLen L' rest
        have s1 := rowSet (rest := rest) L'[k + 1] ja
        have hl2 : (L'.set (k) L'[k + 1]).length = L'.length := List.length_set
        have s2 := rowSet (L := L'.set (k) L'[k + 1]) (rest := rest) (j := k + 1) L'[k] (by omega)
        have hget2 : (h.set id (.cells ((L'.set (k) L'[k + 1]).flatMap flC ++ rest)))[id]? = some (.cells ((L'.set (k) L'[k + 1]).flatMap flC ++ rest)) := List.getElem?_set_self hidl
        have hlen2 := rowLen (L'.set (k) L'[k + 1]) rest
        have k1 : (((k : Nat) : Int) + 1).toNat = k + 1 := by omega
        have k2 : True := trivial
        simp (disch:=first|assumption|omega) only[e13,e10,e0,eh,hlt2,hget,q1,q2,k1,hlen,flC_rdc,flC_all,flC_len,s1,s2,List.set_set,hget2,hlen2,hl2,go_sem,↓reduceIte,Nat.reduceEqDiff,reduceCtorEq,Nat.reduceLeDiff,reduceIte]
        exact ⟨⟨by omega, by omega⟩, by omega, by omega, by omega, by omega, by omega, ⟨by omega, by omega⟩, by omega, d - 1, by omega, k + 1, _, by omega, by omega, by omega, by simp, (swap_perm ja jb).trans hp, rfl⟩
      · simp (disch:=first|assumption|omega) only[e13,e10,hlt2,go_sem,↓reduceIte,Nat.reduceEqDiff,reduceIte]
        subst hQ
        simp (disch:=first|assumption|omega) only[R.slices_symMergeCmpFunc_sent,go_sem]
        exact ⟨rfl, L', hp, by first | rfl | exact eh⟩
  · have hm1' : ¬ (m : Int) - a = 1 := by omega
    by_cases hb1 : b - m = 1
    · have hb1' : (b : Int) - m = 1 := by omega
      simp (disch:=first|assumption|omega) only[hm1',hb1',go_sem,↓reduceIte,Nat.reduceEqDiff,reduceIte]
      refine aw_count (fun d S => ∃ (i j : Nat), j - i = d ∧ a ≤ i ∧ i ≤ j ∧ j ≤ m ∧ S.env 14 = .int .i64 i ∧ S.env 15 = .int .i64 j ∧ S.env 0 = .ref id 0 N cap ∧ S.env 2 = .int .i64 m ∧ S.env 4 = .func f [] ∧ S.heap = h) (n := m - a)
        ⟨a, m, rfl, by omega, by omega, by omega, by simp only[go_sem,↓reduceIte,Nat.reduceEqDiff,reduceIte], by simp only[go_sem,↓reduceIte,reduceIte], by simp only[go_sem,↓reduceIte,reduceCtorEq,reduceIte], by simp only[go_sem,↓reduceIte,Nat.reduceEqDiff,reduceIte], by simp only[go_sem,↓reduceIte,Nat.reduceEqDiff,reduceIte], by simp (disch:=first|assumption|omega) only[go_sem]⟩ ?_
      rintro d S ⟨i, j, hd, hmi, hij, hjb, e14, e15, e0, e2, e4, eh⟩
      by_cases hlt : (i : Int) < j
      · have hh := half_sum (a := i) (b := j) (by omega)
        obtain ⟨c, hc⟩ : ∃ c, c = (i + j) / 2 := ⟨_, rfl⟩
        rw [← hc] at hh
        have hcl : c < L.length := by omega
        have hal : m < L.length := by omega
        have q1 := rowGet (rest := rest) hcl
        have q2 := rowGet (rest := rest) hal
        have hlen := rowLen L rest
        simp (disch:=first|assumption|omega) only[e14,e15,e0,e2,e4,eh,hlt,hh,hid,q1,q2,hlen,flC_rdc,go_sem,↓reduceIte,Nat.reduceEqDiff,reduceCtorEq,Nat.reduceLeDiff,reduceIte,Int.reduceLE]
        refine ⟨by omega, by omega, by omega, by omega, ?_⟩
        refine callvqG_ok (hf L[m] L[c] _) (by simp (disch:=first|assumption|omega) only[go_sem]) ?_
        rintro _ _ ⟨⟨w, rfl⟩, hhh⟩
        rw [hhh]
        clear hhh
        refine ⟨rfl, ?_⟩
        by_cases hw : w < 0
        · simp only[e14,e0,e2,e4,eh,hw,go_sem,↓reduceIte,Nat.reduceEqDiff,reduceCtorEq,reduceIte]
          exact ⟨c - i, by omega, i, c, rfl, by omega, by omega, by omega, rfl, rfl⟩
        · simp (disch:=first|assumption|omega) only[e15,e0,e2,e4,eh,hw,go_sem,↓reduceIte,Nat.reduceEqDiff,reduceCtorEq,reduceIte]
          exact ⟨j - (c + 1), by omega, c + 1, j, rfl, by omega, by omega, by omega, by simp, rfl⟩
      · simp (disch:=first|assumption|omega) only[e14,e15,e2,hlt,go_sem,↓reduceIte,Nat.reduceEqDiff,reduceIte]
        refine aw_count (fun d S => ∃ (k : Nat) (L' : List Fl), k - i = d ∧ i ≤ k ∧ k ≤ m ∧ S.env 17 = .int .i64 k ∧ S.env 14 = .int .i64 i ∧ S.env 0 = .ref id 0 N cap ∧ L'.Perm L ∧ S.heap = h.set id (.cells (L'.flatMap flC ++ rest))) (n := m - i)
          ⟨m, L, rfl, by omega, by omega, by simp (disch:=first|assumption|omega) only[go_sem,↓reduceIte,reduceIte], by simp (disch:=first|assumption|omega) only[e14,go_sem,↓reduceIte,Nat.reduceEqDiff,reduceIte], by simp (disch:=first|assumption|omega) only[e0,go_sem,↓reduceIte,reduceCtorEq,reduceIte], List.Perm.refl _, by simp (disch:=first|assumption|omega) only[eh,go_sem]; rw [setH_same hid]⟩ ?_
        rintro d S ⟨k, L', hd, hak, hki, e17, e14, e0, hp, eh⟩
        have hl' := hp.length_eq
        by_cases hlt2 : (i : Int) < k
        · have hget : (h.set id (.cells (L'.flatMap flC ++ rest)))[id]? = some (.cells (L'.flatMap flC ++ rest)) := List.getElem?_set_self hidl
          have ja : k < L'.length := by omega
          have jb : k - 1 < L'.length := by omega
          have q1 := rowGet (rest := rest) ja
          have q2 := rowGet (rest := rest) jb
          have hlen := rowLen L' rest
          have s1 := rowSet (rest := rest) L'[k - 1] ja
          have hl2 : (L'.set (k) L'[k - 1]).length = L'.length := List.length_set
          have s2 := rowSet (L := L'.set (k) L'[k - 1]) (rest := rest) (j := k - 1) L'[k] (by omega)
          have hget2 : (h.set id (.cells ((L'.set (k) L'[k - 1]).flatMap flC ++ rest)))[id]? = some (.cells ((L'.set (k) L'[k - 1]).flatMap flC ++ rest)) := List.getElem?_set_self hidl
          have hlen2 := rowLen (L'.set (k) L'[k - 1]) rest
          have k1 : (((k : Nat) : Int) - 1).toNat = k - 1 := by omega
          have k2 : True := trivial
          simp (disch:=first|assumption|omega) only[e17,e14,e0,eh,hlt2,hget,q1,q2,k1,hlen,flC_rdc,flC_all,flC_len,s1,s2,List.set_set,hget2,hlen2,hl2,go_sem,↓reduceIte,Nat.reduceEqDiff,reduceCtorEq,Nat.reduceLeDiff,reduceIte]
          exact ⟨⟨by omega, by omega⟩, by omega, by omega, by omega, by omega, by omega, ⟨by omega, by omega⟩, by omega, d - 1, by omega, k - 1, _, by omega, by omega, by omega, by congr 1; omega, (swap_perm ja jb).trans hp, rfl⟩
        · simp only[e17,e14,hlt2,go_sem,↓reduceIte,Nat.reduceEqDiff,reduceIte]
          subst hQ
          simp only[R.slices_symMergeCmpFunc_sent,go_sem]
          exact ⟨rfl, L', hp, by first | rfl | exact eh⟩
    · have hb1' : ¬ (b : Int) - m = 1 := by omega
      have hh := half_sum (a := a) (b := b) (by omega)
      obtain ⟨c, hc⟩ : ∃ c, c = (a + b) / 2 := ⟨_, rfl⟩
      rw [← hc] at hh
      by_cases hcm : c < m
      · have hcm' : (c : Int) < m := by omega
        have hxs : (c : Int) + m - b = ((c + m - b : Nat) : Int) := by omega
        simp (disch:=first|assumption|omega) only[hm1',hb1',hh,hcm',go_sem,↓reduceIte,Nat.reduceEqDiff,reduceIte,Int.reduceLE]
        refine aw_count (fun d S => ∃ (i j : Nat), j - i = d ∧ c + m - b ≤ i ∧ i ≤ j ∧ j ≤ c ∧ S.env 20 = .int .i64 i ∧ S.env 21 = .int .i64 j ∧ S.env 22 = .int .i64 (c + m - 1) ∧ S.env 0 = .ref id 0 N cap ∧ S.env 1 = .int .i64 a ∧ S.env 2 = .int .i64 m ∧ S.env 3 = .int .i64 b ∧ S.env 4 = .func f [] ∧ S.env 18 = .int .i64 c ∧ S.env 19 = .int .i64 (c + m) ∧ S.heap = h) (n := c - (c + m - b))
          ⟨c + m - b, c, rfl, by omega, by omega, by omega, by simp only[hxs,go_sem,↓reduceIte,Nat.reduceEqDiff,reduceIte]; try (congr 1; omega), by simp only[go_sem,↓reduceIte,Nat.reduceEqDiff,reduceIte], by simp only[go_sem,↓reduceIte,reduceIte], by simp only[go_sem,↓reduceIte,reduceCtorEq,reduceIte], by simp only[go_sem,↓reduceIte,Nat.reduceEqDiff,reduceIte], by simp only[go_sem,↓reduceIte,Nat.reduceEqDiff,reduceIte], by simp only[go_sem,↓reduceIte,Nat.reduceEqDiff,reduceIte], by simp (disch:=first|assumption|omega) only[go_sem,↓reduceIte,Nat.reduceEqDiff,reduceIte], by simp (disch:=first|assumption|omega) only[go_sem,↓reduceIte,Nat.reduceEqDiff,reduceIte], by simp (disch:=first|assumption|omega) only[go_sem,↓reduceIte,Nat.reduceEqDiff,reduceIte], by simp (disch:=first|assumption|omega) only[go_sem]⟩ ?_
        rintro d S ⟨i, j, hd, hmi, hij, hjb, e20, e21, e22, e0, e1, e2, e3, e4, e18, e19, eh⟩
        by_cases hlt : (i : Int) < j
        · have hh2 := half_sum (a := i) (b := j) (by omega)
          obtain ⟨q, hq⟩ : ∃ q, q = (i + j) / 2 := ⟨_, rfl⟩
          rw [← hq] at hh2
          have hpq : c + m - 1 - q < L.length := by omega
          have hql : q < L.length := by omega
          have q1 := rowGet (rest := rest) hpq
          have q2 := rowGet (rest := rest) hql
          have hlen := rowLen L rest
          have k1 : ((c : Int) + m - 1 - q).toNat = c + m - 1 - q := by omega
          simp (disch:=first|assumption|omega) only[e20,e21,e22,e0,e4,eh,hlt,hh2,hid,q1,q2,hlen,flC_rdc,k1,go_sem,↓reduceIte,Nat.reduceEqDiff,reduceCtorEq,Nat.reduceLeDiff,reduceIte,Int.reduceLE]
          refine ⟨⟨by omega, by omega⟩, by omega, by omega, by omega, ?_⟩
          refine callvqG_ok (hf L[c + m - 1 - q] L[q] _) (by simp (disch:=first|assumption|omega) only[go_sem]) ?_
          rintro _ _ ⟨⟨w, rfl⟩, hhh⟩
          rw [hhh]
          clear hhh
          refine ⟨rfl, ?_⟩
          by_cases hw : w < 0
          · simp only[e20,e22,e0,e1,e2,e3,e4,e18,e19,eh,hw,go_sem,↓reduceIte,Nat.reduceEqDiff,reduceCtorEq,reduceIte]
            exact ⟨q - i, by omega, i, q, rfl, by omega, by omega, by omega, rfl, rfl⟩
          · simp (disch:=first|assumption|omega) only[e21,e22,e0,e1,e2,e3,e4,e18,e19,eh,hw,go_sem,↓reduceIte,Nat.reduceEqDiff,reduceCtorEq,reduceIte]
            exact ⟨j - (q + 1), by omega, q + 1, j, rfl, by omega, by omega, by omega, by simp, rfl⟩
        · simp only[e20,e21,e2,e19,hlt,go_sem,↓reduceIte,Nat.reduceEqDiff,reduceIte]
          obtain ⟨e, he⟩ : ∃ e, e = c + m - i := ⟨_, rfl⟩
          have hec : (c : Int) + m - i = e := by omega
          refine aopsG_cut (SymS N id cap a b c i e f L rest h) ?_ ?_
          · by_cases g1 : i < m
            · by_cases g2 : m < e
              · simp (disch:=first|assumption|omega) only[e20,e0,e2,e4,g1,g2,hec,go_sem,↓reduceIte,Nat.reduceEqDiff,reduceCtorEq,reduceIte]
                refine callG_ok (rotate_ok f L N hL id cap i m e rest _ (by simp (disch:=first|assumption|omega) only[eh,go_sem]; exact hid) (by omega) (by omega) (by omega) hn) (by simp (disch:=first|assumption|omega) only[go_sem]) ?_
                rintro _ _ ⟨rfl, L1, hp1, hhh⟩
                simp only[go_sem,eh] at hhh
                rw [hhh]
                clear hhh
                simp only[go_sem]
                exact ⟨e0, e1, e3, e4, e18, e20, rfl, L1, hp1, rfl⟩
              · simp (disch:=first|assumption|omega) only[e2,g1,g2,hec,go_sem,↓reduceIte,Nat.reduceEqDiff,reduceIte]
                exact ⟨e0, e1, e3, e4, e18, e20, rfl, L, List.Perm.refl _, by rw [setH_same hid]; first | exact eh | rfl⟩
            · simp (disch:=first|assumption|omega) only[g1,hec,go_sem,↓reduceIte,Nat.reduceEqDiff,reduceIte]
              exact ⟨e0, e1, e3, e4, e18, e20, rfl, L, List.Perm.refl _, by rw [setH_same hid]; first | exact eh | rfl⟩
          · clear e20 e21 e22 e0 e1 e2 e3 e4 e18 e19 eh
            rintro S ⟨e0, e1, e3, e4, e18, e20, e24, L1, hp1, eh⟩
            have hl1 := hp1.length_eq
            have hget1 : (h.set id (.cells (L1.flatMap flC ++ rest)))[id]? = some (.cells (L1.flatMap flC ++ rest)) := List.getElem?_set_self hidl
            simp only[e1,e20,go_sem,↓reduceIte,Nat.reduceEqDiff,reduceIte]
            refine aopsG_cut (SymS N id cap a b c i e f L rest h) ?_ ?_
            · by_cases g1 : a < i
              · by_cases g2 : i < c
                · simp only[e0,e1,e4,e18,e20,g1,g2,go_sem,↓reduceIte,Nat.reduceEqDiff,reduceCtorEq,reduceIte]
                  refine callG_ok (ih a i c L1 _ (by omega) g1 g2 (by omega) (by omega) (by simp only[eh,go_sem]; exact hget1)) (by simp only[go_sem]) ?_
                  rintro _ _ ⟨rfl, L2, hp2, hhh⟩
                  simp only[go_sem,eh,List.set_set] at hhh
                  rw [hhh]
                  clear hhh
                  simp only[go_sem]
                  exact ⟨e0, e1, e3, e4, e18, e20, e24, L2, hp2.trans hp1, rfl⟩
                · simp only[e18,e20,g1,g2,go_sem,↓reduceIte,Nat.reduceEqDiff,reduceIte]
                  exact ⟨e0, e1, e3, e4, e18, e20, e24, L1, hp1, eh⟩
              · simp only[g1,go_sem,↓reduceIte,Nat.reduceEqDiff,reduceIte]
                exact ⟨e0, e1, e3, e4, e18, e20, e24, L1, hp1, eh⟩
            · clear e0 e1 e3 e4 e18 e20 e24 eh hp1 hl1 hget1
              clear L1
              rintro S ⟨e0, e1, e3, e4, e18, e20, e24, L1, hp1, eh⟩
              have hl1 := hp1.length_eq
              have hget1 : (h.set id (.cells (L1.flatMap flC ++ rest)))[id]? = some (.cells (L1.flatMap flC ++ rest)) := List.getElem?_set_self hidl
              by_cases g1 : c < e
              · by_cases g2 : e < b
                · simp only[e0,e3,e4,e18,e24,g1,g2,go_sem,↓reduceIte,Nat.reduceEqDiff,reduceCtorEq,reduceIte]
                  refine callG_ok (ih c e b L1 _ (by omega) g1 g2 (by omega) (by omega) (by simp only[eh,go_sem]; exact hget1)) (by simp only[go_sem]) ?_
                  rintro _ _ ⟨rfl, L2, hp2, hhh⟩
                  simp only[go_sem,eh,List.set_set] at hhh
                  rw [hhh]
                  clear hhh
                  simp only[go_sem]
                  subst hQ
                  simp only[R.slices_symMergeCmpFunc_sent,go_sem]
                  exact ⟨rfl, L2, hp2.trans hp1, rfl⟩
                · simp only[e3,e18,e24,g1,g2,go_sem,↓reduceIte,Nat.reduceEqDiff,reduceIte]
                  subst hQ
                  simp only[R.slices_symMergeCmpFunc_sent,go_sem]
                  exact ⟨rfl, L1, hp1, by first | rfl | exact eh⟩
              · simp only[e18,e24,g1,go_sem,↓reduceIte,Nat.reduceEqDiff,reduceIte]
                subst hQ
                exact ⟨(fun r hr => by cases hr), rfl, L1, hp1, eh⟩
      · have hcm' : ¬ (c : Int) < m := by omega
        have hxs : True := trivial
        simp (disch:=first|assumption|omega) only[hm1',hb1',hh,hcm',go_sem,↓reduceIte,Nat.reduceEqDiff,reduceIte,Int.reduceLE]
        refine aw_count (fun d S => ∃ (i j : Nat), j - i = d ∧ a ≤ i ∧ i ≤ j ∧ j ≤ m ∧ S.env 20 = .int .i64 i ∧ S.env 21 = .int .i64 j ∧ S.env 22 = .int .i64 (c + m - 1) ∧ S.env 0 = .ref id 0 N cap ∧ S.env 1 = .int .i64 a ∧ S.env 2 = .int .i64 m ∧ S.env 3 = .int .i64 b ∧ S.env 4 = .func f [] ∧ S.env 18 = .int .i64 c ∧ S.env 19 = .int .i64 (c + m) ∧ S.heap = h) (n := m - (a))
          ⟨a, m, rfl, by omega, by omega, by omega, by simp only[go_sem,↓reduceIte,Nat.reduceEqDiff,reduceIte]; try (congr 1; omega), by simp only[go_sem,↓reduceIte,Nat.reduceEqDiff,reduceIte], by simp only[go_sem,↓reduceIte,reduceIte], by simp only[go_sem,↓reduceIte,reduceCtorEq,reduceIte], by simp only[go_sem,↓reduceIte,Nat.reduceEqDiff,reduceIte], by simp only[go_sem,↓reduceIte,Nat.reduceEqDiff,reduceIte], by simp only[go_sem,↓reduceIte,Nat.reduceEqDiff,reduceIte], by simp (disch:=first|assumption|omega) only[go_sem,↓reduceIte,Nat.reduceEqDiff,reduceIte], by simp (disch:=first|assumption|omega) only[go_sem,↓reduceIte,Nat.reduceEqDiff,reduceIte], by simp (disch:=first|assumption|omega) only[go_sem,↓reduceIte,Nat.reduceEqDiff,reduceIte], by simp (disch:=first|assumption|omega) only[go_sem]⟩ ?_
        rintro d S ⟨i, j, hd, hmi, hij, hjb, e20, e21, e22, e0, e1, e2, e3, e4, e18, e19, eh⟩
        by_cases hlt : (i : Int) < j
        · have hh2 := half_sum (a := i) (b := j) (by omega)
          obtain ⟨q, hq⟩ : ∃ q, q = (i + j) / 2 := ⟨_, rfl⟩
          rw [← hq] at hh2
          have hpq : c + m - 1 - q < L.length := by omega
          have hql : q < L.length := by omega
          have q1 := rowGet (rest := rest) hpq
          have q2 := rowGet (rest := rest) hql
          have hlen := rowLen L rest
          have k1 : ((c : Int) + m - 1 - q).toNat = c + m - 1 - q := by omega
          simp (disch:=first|assumption|omega) only[e20,e21,e22,e0,e4,eh,hlt,hh2,hid,q1,q2,hlen,flC_rdc,k1,go_sem,↓reduceIte,Nat.reduceEqDiff,reduceCtorEq,Nat.reduceLeDiff,reduceIte,Int.reduceLE]
          refine ⟨⟨by omega, by omega⟩, by omega, by omega, by omega, ?_⟩
          refine callvqG_ok (hf L[c + m - 1 - q] L[q] _) (by simp (disch:=first|assumption|omega) only[go_sem]) ?_
          rintro _ _ ⟨⟨w, rfl⟩, hhh⟩
          rw [hhh]
          clear hhh
          refine ⟨rfl, ?_⟩
          by_cases hw : w < 0
          · simp only[e20,e22,e0,e1,e2,e3,e4,e18,e19,eh,hw,go_sem,↓reduceIte,Nat.reduceEqDiff,reduceCtorEq,reduceIte]
            exact ⟨q - i, by omega, i, q, rfl, by omega, by omega, by omega, rfl, rfl⟩
          · simp (disch:=first|assumption|omega) only[e21,e22,e0,e1,e2,e3,e4,e18,e19,eh,hw,go_sem,↓reduceIte,Nat.reduceEqDiff,reduceCtorEq,reduceIte]
            exact ⟨j - (q + 1), by omega, q + 1, j, rfl, by omega, by omega, by omega, by simp, rfl⟩
        · simp only[e20,e21,e2,e19,hlt,go_sem,↓reduceIte,Nat.reduceEqDiff,reduceIte]
          obtain ⟨e, he⟩ : ∃ e, e = c + m - i := ⟨_, rfl⟩
          have hec : (c : Int) + m - i = e := by omega
          refine aopsG_cut (SymS N id cap a b c i e f L rest h) ?_ ?_
          · by_cases g1 : i < m
            · by_cases g2 : m < e
              · simp (disch:=first|assumption|omega) only[e20,e0,e2,e4,g1,g2,hec,go_sem,↓reduceIte,Nat.reduceEqDiff,reduceCtorEq,reduceIte]
                refine callG_ok (rotate_ok f L N hL id cap i m e rest _ (by simp (disch:=first|assumption|omega) only[eh,go_sem]; exact hid) (by omega) (by omega) (by omega) hn) (by simp (disch:=first|assumption|omega) only[go_sem]) ?_
                rintro _ _ ⟨rfl, L1, hp1, hhh⟩
                simp only[go_sem,eh] at hhh
                rw [hhh]
                clear hhh
                simp only[go_sem]
                exact ⟨e0, e1, e3, e4, e18, e20, rfl, L1, hp1, rfl⟩
              · simp (disch:=first|assumption|omega) only[e2,g1,g2,hec,go_sem,↓reduceIte,Nat.reduceEqDiff,reduceIte]
                exact ⟨e0, e1, e3, e4, e18, e20, rfl, L, List.Perm.refl _, by rw [setH_same hid]; first | exact eh | rfl⟩
            · simp (disch:=first|assumption|omega) only[g1,hec,go_sem,↓reduceIte,Nat.reduceEqDiff,reduceIte]
              exact ⟨e0, e1, e3, e4, e18, e20, rfl, L, List.Perm.refl _, by rw [setH_same hid]; first | exact eh | rfl⟩
          · clear e20 e21 e22 e0 e1 e2 e3 e4 e18 e19 eh
            rintro S ⟨e0, e1, e3, e4, e18, e20, e24, L1, hp1, eh⟩
            have hl1 := hp1.length_eq
            have hget1 : (h.set id (.cells (L1.flatMap flC ++ rest)))[id]? = some (.cells (L1.flatMap flC ++ rest)) := List.getElem?_set_self hidl
            simp only[e1,e20,go_sem,↓reduceIte,Nat.reduceEqDiff,reduceIte]
            refine aopsG_cut (SymS N id cap a b c i e f L rest h) ?_ ?_
            · by_cases g1 : a < i
              · by_cases g2 : i < c
                · simp only[e0,e1,e4,e18,e20,g1,g2,go_sem,↓reduceIte,Nat.reduceEqDiff,reduceCtorEq,reduceIte]
                  refine callG_ok (ih a i c L1 _ (by omega) g1 g2 (by omega) (by omega) (by simp only[eh,go_sem]; exact hget1)) (by simp only[go_sem]) ?_
                  rintro _ _ ⟨rfl, L2, hp2, hhh⟩
                  simp only[go_sem,eh,List.set_set] at hhh
                  rw [hhh]
                  clear hhh
                  simp only[go_sem]
                  exact ⟨e0, e1, e3, e4, e18, e20, e24, L2, hp2.trans hp1, rfl⟩
                · simp only[e18,e20,g1,g2,go_sem,↓reduceIte,Nat.reduceEqDiff,reduceIte]
                  exact ⟨e0, e1, e3, e4, e18, e20, e24, L1, hp1, eh⟩
              · simp only[g1,go_sem,↓reduceIte,Nat.reduceEqDiff,reduceIte]
                exact ⟨e0, e1, e3, e4, e18, e20, e24, L1, hp1, eh⟩
            · clear e0 e1 e3 e4 e18 e20 e24 eh hp1 hl1 hget1
              clear L1
              rintro S ⟨e0, e1, e3, e4, e18, e20, e24, L1, hp1, eh⟩
              have hl1 := hp1.length_eq
              have hget1 : (h.set id (.cells (L1.flatMap flC ++ rest)))[id]? = some (.cells (L1.flatMap flC ++ rest)) := List.getElem?_set_self hidl
              by_cases g1 : c < e
              · by_cases g2 : e < b
                · simp only[e0,e3,e4,e18,e24,g1,g2,go_sem,↓reduceIte,Nat.reduceEqDiff,reduceCtorEq,reduceIte]
                  refine callG_ok (ih c e b L1 _ (by omega) g1 g2 (by omega) (by omega) (by simp only[eh,go_sem]; exact hget1)) (by simp only[go_sem]) ?_
                  rintro _ _ ⟨rfl, L2, hp2, hhh⟩
                  simp only[go_sem,eh,List.set_set] at hhh
                  rw [hhh]
                  clear hhh
                  simp only[go_sem]
                  subst hQ
                  simp only[R.slices_symMergeCmpFunc_sent,go_sem]
                  exact ⟨rfl, L2, hp2.trans hp1, rfl⟩
                · simp only[e3,e18,e24,g1,g2,go_sem,↓reduceIte,Nat.reduceEqDiff,reduceIte]
                  subst hQ
                  simp only[R.slices_symMergeCmpFunc_sent,go_sem]
                  exact ⟨rfl, L1, hp1, by first | rfl | exact eh⟩
              · simp only[e18,e24,g1,go_sem,↓reduceIte,Nat.reduceEqDiff,reduceIte]
                subst hQ
                exact ⟨(fun r hr => by cases hr), rfl, L1, hp1, eh⟩
end Go.Proofs.Ytpdajkbfemcdlaa
namespace Go.Proofs.Ytpdajkbfemcdlaa
open Go.Ge
def CmpD (f : Nat) (cf : Fl → Fl → Int) : Prop := ∀ (a b : Fl) (h : List HObj), ACalls Try.prog f [.agg (flC a), .agg (flC b)] h (fun v h' => v = .int .i64 (cf a b) ∧ h' = h)
theorem CmpD.f {f : Nat} {cf : Fl → Fl → Int} (h : CmpD f cf) : CmpF f := fun a b hp => ACalls.mono (h a b hp) fun v h' e => ⟨⟨_, e.1⟩, e.2⟩
def Flat (cf : Fl → Fl → Int) (L : List Fl) : Prop := ∀ x ∈ L, ∀ y ∈ L, ¬cf x y < 0
def PermS (cf : Fl → Fl → Int) (L : List Fl) (id : Nat) (rest : List AVal) (h : List HObj) (v : AVal) (h' : List HObj) : Prop := v = .tup [] ∧ ∃ L' : List Fl, L'.Perm L ∧ (Flat cf L → L' = L) ∧ h' = h.set id (.cells (L'.flatMap flC ++ rest))
theorem insSent_ok (f : Nat) (cf : Fl → Fl → Int) (hf : CmpD f cf) (id cap N : Nat) (rest : List AVal) (hn : N ≤ 1099511627776) (a b : Nat) (L : List Fl) (h : List HObj) (hab : a ≤ b) (hbN : b ≤ N) (hL : L.length = N) (hid : h[id]? = some (.cells (L.flatMap flC ++ rest))) :
    ACalls Try.prog F.slices_insertionSortCmpFunc_sent [.ref id 0 N cap, .int .i64 a, .int .i64 b, .func f []] h (PermS cf L id rest h) := by
  have hidl : id < h.length := (List.getElem?_eq_some_iff.1 hid).1
  refine ACalls.of_aw Try.func216 K.slices_insertionSortCmpFunc_sent (by simp [Try.f216]) ?_
  generalize hQ : retQ R.slices_insertionSortCmpFunc_sent _ = Q
  simp only[C.slices_insertionSortCmpFunc_sent,go_sem,↓reduceIte,reduceIte]
  refine aw_count (fun d S => ∃ (i : Nat) (L' : List Fl), b - i = d ∧ a + 1 ≤ i ∧ S.env 8 = .int .i64 i ∧ S.env 0 = .ref id 0 N cap ∧ S.env 1 = .int .i64 a ∧ S.env 2 = .int .i64 b ∧ S.env 3 = .func f [] ∧ L'.Perm L ∧ (Flat cf L → L' = L) ∧ S.heap = h.set id (.cells (L'.flatMap flC ++ rest))) (n := b - (a + 1))
    ⟨a + 1, L, rfl, by omega, by simp (disch:=first|assumption|omega) only[go_sem,↓reduceIte,reduceIte]; simp, by simp (disch:=first|assumption|omega) only[go_sem,↓reduceIte,reduceCtorEq,reduceIte], by simp (disch:=first|assumption|omega) only[go_sem,↓reduceIte,Nat.reduceEqDiff,reduceIte], by simp (disch:=first|assumption|omega) only[go_sem,↓reduceIte,Nat.reduceEqDiff,reduceIte], by simp (disch:=first|assumption|omega) only[go_sem,↓reduceIte,Nat.reduceEqDiff,reduceIte], List.Perm.refl _, fun _ => rfl, by simp (disch:=first|assumption|omega) only[go_sem]; rw [setH_same hid]⟩ ?_
  rintro d S ⟨i, L', hd, hi, e8, e0, e1, e2, e3, hp, hfl, eh⟩
  by_cases hlt : (i : Int) < b
  · simp (disch:=first|assumption|omega) only[e8,e2,hlt,go_sem,↓reduceIte,Nat.reduceEqDiff,reduceIte]
    refine aw_count (fun e S => ∃ (j : Nat) (L' : List Fl), j = e ∧ a ≤ j ∧ j ≤ i ∧ S.env 9 = .int .i64 j ∧ S.env 8 = .int .i64 i ∧ S.env 0 = .ref id 0 N cap ∧ S.env 1 = .int .i64 a ∧ S.env 2 = .int .i64 b ∧ S.env 3 = .func f [] ∧ L'.Perm L ∧ (Flat cf L → L' = L) ∧ S.heap = h.set id (.cells (L'.flatMap flC ++ rest))) (n := i)
      ⟨i, L', rfl, by omega, by omega, by simp (disch:=first|assumption|omega) only[go_sem,↓reduceIte,reduceIte], by simp (disch:=first|assumption|omega) only[e8,go_sem,↓reduceIte,Nat.reduceEqDiff,reduceIte], by simp (disch:=first|assumption|omega) only[e0,go_sem,↓reduceIte,reduceCtorEq,reduceIte], by simp (disch:=first|assumption|omega) only[e1,go_sem,↓reduceIte,Nat.reduceEqDiff,reduceIte], by simp (disch:=first|assumption|omega) only[e2,go_sem,↓reduceIte,Nat.reduceEqDiff,reduceIte], by simp (disch:=first|assumption|omega) only[e3,go_sem,↓reduceIte,Nat.reduceEqDiff,reduceIte], hp, hfl, by simp (disch:=first|assumption|omega) only[eh,go_sem]⟩ ?_
    clear e8 e0 e1 e2 e3 eh hp hfl
    clear L'
    rintro e S ⟨j, L', he, haj, hji, e9, e8, e0, e1, e2, e3, hp, hfl, eh⟩
    have hl' := hp.length_eq
    by_cases hja : (a : Int) < j
    · have hget : (h.set id (.cells (L'.flatMap flC ++ rest)))[id]? = some (.cells (L'.flatMap flC ++ rest)) := List.getElem?_set_self hidl
      have ja : j < L'.length := by omega
      have jb : j - 1 < L'.length := by omega
      have q1 := rowGet (rest := rest) ja
      have q2 := rowGet (rest := rest) jb
      have hlen := rowLen L' rest
      have s1 := rowSet (rest := rest) L'[j - 1] ja
      have hl2 : (L'.set j L'[j - 1]).length = L'.length := List.length_set
      have s2 := rowSet (L := L'.set j L'[j - 1]) (rest := rest) (j := j - 1) L'[j] (by omega)
      have hget2 : (h.set id (.cells ((L'.set j L'[j - 1]).flatMap flC ++ rest)))[id]? = some (.cells ((L'.set j L'[j - 1]).flatMap flC ++ rest)) := List.getElem?_set_self hidl
      have hlen2 := rowLen (L'.set j L'[j - 1]) rest
      have k1 : (((j : Nat) : Int) - 1).toNat = j - 1 := by omega
      have hjN : j < N := by omega
      simp (disch:=first|assumption|omega) only[e9,e0,e1,e3,eh,hja,hget,q1,q2,k1,hlen,flC_rdc,go_sem,↓reduceIte,Nat.reduceEqDiff,reduceCtorEq,Nat.reduceLeDiff,reduceIte]
      refine ⟨by omega, by omega, ⟨by omega, by omega⟩, by omega, ?_⟩
      refine callvqG_ok (hf L'[j] L'[j - 1] _) (by simp (disch:=first|assumption|omega) only[go_sem]) ?_
      rintro _ _ ⟨rfl, hhh⟩
      rw [hhh]
      clear hhh
      refine ⟨rfl, ?_⟩
      by_cases hw : cf L'[j] L'[j - 1] < 0
      · have hnf : ¬Flat cf L := fun hF => by
          have e := hfl hF
          exact hF _ (e ▸ List.getElem_mem ja) _ (e ▸ List.getElem_mem jb) hw
        simp (disch:=first|assumption|omega) only[e9,e8,e0,e1,e2,e3,eh,hget,q1,q2,k1,hlen,flC_rdc,flC_all,flC_len,s1,s2,List.set_set,hget2,hlen2,hl2,hw,go_sem,↓reduceIte,Nat.reduceEqDiff,reduceCtorEq,Nat.reduceLeDiff,reduceIte]
        exact ⟨⟨by omega, by omega⟩, by omega, by omega, by omega, by omega, by omega, ⟨by omega, by omega⟩, by omega, j - 1, by omega, j - 1, _, rfl, by omega, by omega, by congr 1; omega, (swap_perm ja jb).trans hp, fun hF => absurd hF hnf, rfl⟩
      · simp (disch:=first|assumption|omega) only[e8,e0,e1,e2,e3,eh,hw,go_sem,↓reduceIte,Nat.reduceEqDiff,reduceCtorEq,reduceIte]
        exact ⟨d - 1, by omega, i + 1, L', by omega, by omega, by simp, hp, hfl, rfl⟩
    · simp (disch:=first|assumption|omega) only[e9,e8,e0,e1,e2,e3,eh,hja,go_sem,↓reduceIte,Nat.reduceEqDiff,reduceCtorEq,reduceIte]
      exact ⟨d - 1, by omega, i + 1, L', by omega, by omega, by simp, hp, hfl, rfl⟩
  · simp only[e8,e2,hlt,go_sem,↓reduceIte,Nat.reduceEqDiff,reduceIte]
    subst hQ
    simp only[R.slices_insertionSortCmpFunc_sent,go_sem]
    exact ⟨rfl, L', hp, hfl, eh⟩
theorem stable_ok (f : Nat) (cf : Fl → Fl → Int) (hf : CmpD f cf) (id cap N : Nat) (rest : List AVal) (hn : N ≤ 1099511627776) (L : List Fl) (h : List HObj) (hL : L.length = N) (hid : h[id]? = some (.cells (L.flatMap flC ++ rest))) :
    ACalls Try.prog F.slices_stableCmpFunc_sent [.ref id 0 N cap, .int .i64 N, .func f []] h (fun v h' => v = .tup [] ∧ ∃ L' : List Fl, L'.Perm L ∧ (N ≤ 20 → Flat cf L → L' = L) ∧ h' = h.set id (.cells (L'.flatMap flC ++ rest))) := by
  have hidl : id < h.length := (List.getElem?_eq_some_iff.1 hid).1
  have fperm : ∀ {L' : List Fl}, L'.Perm L → Flat cf L → Flat cf L' := fun hp hF x hx y hy => hF x (hp.mem_iff.1 hx) y (hp.mem_iff.1 hy)
  have ins : ∀ (L' : List Fl) (H : List HObj) (a b : Nat) (p q : Int), L'.Perm L → (Flat cf L → L' = L) → H = h.set id (.cells (L'.flatMap flC ++ rest)) → p = a → q = b → a ≤ b → b ≤ N → ACalls Try.prog F.slices_insertionSortCmpFunc_sent [.ref id 0 N cap, .int .i64 p, .int .i64 q, .func f []] H (fun v h' => v = .tup [] ∧ ∃ L2 : List Fl, L2.Perm L ∧ (Flat cf L → L2 = L) ∧ h' = h.set id (.cells (L2.flatMap flC ++ rest))) := by
    rintro L' _ a b _ _ hp hfl rfl rfl rfl hab hb
    refine ACalls.mono (insSent_ok f cf hf id cap N rest hn a b L' _ hab hb (hp.length_eq.trans hL) (List.getElem?_set_self hidl)) fun v h' ⟨e1, L2, e2, e3, e4⟩ => ⟨e1, L2, e2.trans hp, fun hF => (e3 (fperm hp hF)).trans (hfl hF), by rw [e4, List.set_set]⟩
  have mrg : ∀ (L' : List Fl) (H : List HObj) (a m b : Nat) (p q r : Int), L'.Perm L → H = h.set id (.cells (L'.flatMap flC ++ rest)) → p = a → q = m → r = b → a < m → m < b → b ≤ N → ACalls Try.prog F.slices_symMergeCmpFunc_sent [.ref id 0 N cap, .int .i64 p, .int .i64 q, .int .i64 r, .func f []] H (fun v h' => v = .tup [] ∧ ∃ L2 : List Fl, L2.Perm L ∧ h' = h.set id (.cells (L2.flatMap flC ++ rest))) := by
    rintro L' _ a m b _ _ _ hp rfl rfl rfl rfl h1 h2 h3
    refine ACalls.mono (symMerge_ok f hf.f id cap N rest hn (b - a) a m b L' _ (Nat.le_refl _) h1 h2 h3 (hp.length_eq.trans hL) (List.getElem?_set_self hidl)) fun v h' ⟨e1, L2, e2, e4⟩ => ⟨e1, L2, e2.trans hp, by rw [e4, List.set_set]⟩
  refine ACalls.of_aw Try.func199 K.slices_stableCmpFunc_sent (by simp [Try.f199]) ?_
  generalize hQ : retQ R.slices_stableCmpFunc_sent _ = Q
  simp only[C.slices_stableCmpFunc_sent,go_sem,↓reduceIte,Nat.reduceEqDiff,reduceIte]
  refine aw_count (fun d S => ∃ (a b : Nat) (L' : List Fl), N + 20 - b = d ∧ b = a + 20 ∧ a ≤ N ∧ S.env 7 = .int .i64 a ∧ S.env 8 = .int .i64 b ∧ S.env 6 = .int .i64 20 ∧ S.env 0 = .ref id 0 N cap ∧ S.env 1 = .int .i64 N ∧ S.env 2 = .func f [] ∧ L'.Perm L ∧ (Flat cf L → L' = L) ∧ S.heap = h.set id (.cells (L'.flatMap flC ++ rest))) (n := N)
    ⟨0, 20, L, by omega, by omega, by omega, by simp only[go_sem,↓reduceIte,Nat.reduceEqDiff,reduceIte]; try rfl, by simp only[go_sem,↓reduceIte,reduceIte]; try rfl, by simp only[go_sem,↓reduceIte,Nat.reduceEqDiff,reduceIte], by simp only[go_sem,↓reduceIte,reduceCtorEq,reduceIte], by simp only[go_sem,↓reduceIte,Nat.reduceEqDiff,reduceIte], by simp only[go_sem,↓reduceIte,Nat.reduceEqDiff,reduceIte], List.Perm.refl _, fun _ => rfl, by simp only[go_sem]; rw [setH_same hid]⟩ ?_
  rintro d S ⟨a, b, L', hd, hb, haN, e7, e8, e6, e0, e1, e2, hp, hfl, eh⟩
  by_cases hbN : b ≤ N
  · simp only[e7,e8,e0,e1,e2,hbN,go_sem,↓reduceIte,Nat.reduceEqDiff,reduceCtorEq,reduceIte]
    refine callG_ok (ins L' _ a b a b hp hfl (by simp only[eh,go_sem]) rfl rfl (by omega) hbN) (by simp only[go_sem]) ?_
    rintro _ _ ⟨rfl, L2, hp2, hfl2, hhh⟩
    rw [hhh]
    clear hhh
    simp (disch:=first|assumption|omega) only[e8,e6,e0,e1,e2,go_sem,↓reduceIte,Nat.reduceEqDiff,reduceCtorEq,reduceIte]
    exact ⟨d - 20, by omega, b, b + 20, L2, by omega, rfl, hbN, rfl, by simp, hp2, hfl2, rfl⟩
  · simp only[e7,e8,e0,e1,e2,hbN,go_sem,↓reduceIte,Nat.reduceEqDiff,reduceCtorEq,reduceIte]
    refine callG_ok (ins L' _ a N a N hp hfl (by simp only[eh,go_sem]) rfl rfl (by omega) (Nat.le_refl _)) (by simp only[go_sem]) ?_
    rintro _ _ ⟨rfl, L2, hp2, hfl2, hhh⟩
    rw [hhh]
    clear hhh
    simp only[go_sem]
    refine aw_count (fun d S => ∃ (z : Nat) (L' : List Fl), 2 * N + 20 - z = d ∧ 20 ≤ z ∧ z ≤ 2 * N + 20 ∧ S.env 6 = .int .i64 z ∧ S.env 0 = .ref id 0 N cap ∧ S.env 1 = .int .i64 N ∧ S.env 2 = .func f [] ∧ L'.Perm L ∧ (N ≤ 20 → Flat cf L → L' = L) ∧ S.heap = h.set id (.cells (L'.flatMap flC ++ rest))) (n := 2 * N)
      ⟨20, L2, by omega, by omega, by omega, by simp only[e6,go_sem,↓reduceIte,Nat.reduceEqDiff,reduceIte]; try rfl, by simp only[e0,go_sem,↓reduceIte,reduceCtorEq,reduceIte], by simp only[e1,go_sem,↓reduceIte,Nat.reduceEqDiff,reduceIte], by simp only[e2,go_sem,↓reduceIte,Nat.reduceEqDiff,reduceIte], hp2, fun _ => hfl2, by simp only[go_sem]⟩ ?_
    clear e7 e8 e6 e0 e1 e2 eh hp hfl
    rintro d S ⟨z, L', hd, hz, hz2, e6, e0, e1, e2, hp, hfl, eh⟩
    by_cases hzN : z < N
    · have hzN' : (z : Int) < N := by omega
      simp only[e6,e1,hzN,go_sem,↓reduceIte,Nat.reduceEqDiff,reduceIte]
      refine aw_count (fun e S => ∃ (a b : Nat) (L' : List Fl), N + 2 * z - b = e ∧ b = a + 2 * z ∧ a ≤ N ∧ S.env 7 = .int .i64 a ∧ S.env 8 = .int .i64 b ∧ S.env 6 = .int .i64 z ∧ S.env 0 = .ref id 0 N cap ∧ S.env 1 = .int .i64 N ∧ S.env 2 = .func f [] ∧ L'.Perm L ∧ S.heap = h.set id (.cells (L'.flatMap flC ++ rest))) (n := N)
        ⟨0, 2 * z, L', by omega, by omega, by omega, by simp only[go_sem,↓reduceIte,Nat.reduceEqDiff,reduceIte]; try rfl, by simp (disch:=first|assumption|omega) only[go_sem,↓reduceIte,reduceIte]; first | done | simp, by simp (disch:=first|assumption|omega) only[e6,go_sem,↓reduceIte,Nat.reduceEqDiff,reduceIte], by simp (disch:=first|assumption|omega) only[e0,go_sem,↓reduceIte,reduceCtorEq,reduceIte], by simp (disch:=first|assumption|omega) only[e1,go_sem,↓reduceIte,Nat.reduceEqDiff,reduceIte], by simp (disch:=first|assumption|omega) only[e2,go_sem,↓reduceIte,Nat.reduceEqDiff,reduceIte], hp, by simp (disch:=first|assumption|omega) only[eh,go_sem]⟩ ?_
      clear e6 e0 e1 e2 eh hp hfl
      rintro e S ⟨a, b, L', he, hb, haN, e7, e8, e6, e0, e1, e2, hp, eh⟩
      by_cases hbN2 : b ≤ N
      · simp (disch:=first|assumption|omega) only[e7,e8,e6,e0,e1,e2,hbN2,go_sem,↓reduceIte,Nat.reduceEqDiff,reduceCtorEq,reduceIte]
        refine callG_ok (mrg L' _ a (a + z) b a (a + z) b hp (by simp (disch:=first|assumption|omega) only[eh,go_sem]) rfl (by omega) rfl (by omega) (by omega) hbN2) (by simp (disch:=first|assumption|omega) only[go_sem]) ?_
        rintro _ _ ⟨rfl, L3, hp3, hhh⟩
        rw [hhh]
        clear hhh
        simp (disch:=first|assumption|omega) only[e8,e6,e0,e1,e2,go_sem,↓reduceIte,Nat.reduceEqDiff,reduceCtorEq,reduceIte]
        exact ⟨e - 2 * z, by omega, b, b + 2 * z, L3, by omega, rfl, hbN2, rfl, by simp, hp3, rfl⟩
      · simp only[e7,e8,e6,e1,hbN2,go_sem,↓reduceIte,Nat.reduceEqDiff,reduceIte]
        by_cases hmN : (a : Int) + z < N
        · simp (disch:=first|assumption|omega) only[e7,e0,e1,e2,hmN,go_sem,↓reduceIte,Nat.reduceEqDiff,reduceCtorEq,reduceIte]
          refine callG_ok (mrg L' _ a (a + z) N a (a + z) N hp (by simp only[eh,go_sem]) rfl (by omega) rfl (by omega) (by omega) (Nat.le_refl _)) (by simp only[go_sem]) ?_
          rintro _ _ ⟨rfl, L3, hp3, hhh⟩
          rw [hhh]
          clear hhh
          simp (disch:=first|assumption|omega) only[e6,e0,e1,e2,go_sem,↓reduceIte,Nat.reduceEqDiff,reduceCtorEq,reduceIte]
          exact ⟨2 * N + 20 - z * 2, by omega, z * 2, L3, rfl, by omega, by omega, by simp, hp3, fun h20 => by omega, rfl⟩
        · simp (disch:=first|assumption|omega) only[e6,e0,e1,e2,eh,hmN,go_sem,↓reduceIte,Nat.reduceEqDiff,reduceCtorEq,reduceIte]
          exact ⟨2 * N + 20 - z * 2, by omega, z * 2, L', rfl, by omega, by omega, by simp, hp, fun h20 => by omega, by first | rfl | exact eh⟩
    · simp only[e6,e1,hzN,go_sem,↓reduceIte,Nat.reduceEqDiff,reduceIte]
      subst hQ
      simp only[R.slices_stableCmpFunc_sent,go_sem]
      exact ⟨L', hp, hfl, by first | rfl | exact eh⟩
theorem SortStable_ok (f : Nat) (cf : Fl → Fl → Int) (hf : CmpD f cf) (id cap N : Nat) (rest : List AVal) (hn : N ≤ 1099511627776) (L : List Fl) (h : List HObj) (hL : L.length = N) (hid : h[id]? = some (.cells (L.flatMap flC ++ rest))) :
    ACalls Try.prog F.slices_SortStableFunc_sent [.ref id 0 N cap, .func f []] h (fun v h' => v = .tup [] ∧ ∃ L' : List Fl, L'.Perm L ∧ (N ≤ 20 → Flat cf L → L' = L) ∧ h' = h.set id (.cells (L'.flatMap flC ++ rest))) := by
  refine ACalls.of_aw Try.func166 K.slices_SortStableFunc_sent (by simp [Try.f166]) ?_
  generalize hQ : retQ R.slices_SortStableFunc_sent _ = Q
  simp only[C.slices_SortStableFunc_sent,go_sem,↓reduceIte,Nat.reduceEqDiff,reduceCtorEq,reduceIte]
  refine callG_ok (stable_ok f cf hf id cap N rest hn L _ hL (by simp only[hid,go_sem])) (by simp only[go_sem]) ?_
  rintro _ _ ⟨rfl, L', hp, hfl, hhh⟩
  simp only[go_sem] at hhh
  rw [hhh]
  clear hhh
  simp only[go_sem]
  subst hQ
  simp only[R.slices_SortStableFunc_sent,go_sem]
  exact ⟨L', hp, hfl, rfl⟩
theorem insSentNil_ok (f : Nat) (h : List HObj) : ACalls Try.prog F.slices_insertionSortCmpFunc_sent [.lst .nil [], .int .i64 0, .int .i64 0, .func f []] h (fun v h' => v = .tup [] ∧ h' = h) := by
  refine ACalls.of_aw Try.func216 K.slices_insertionSortCmpFunc_sent (by simp [Try.f216]) ?_
  generalize hQ : retQ R.slices_insertionSortCmpFunc_sent _ = Q
  simp only[C.slices_insertionSortCmpFunc_sent,go_sem,↓reduceIte,reduceIte]
  refine aw_count (fun d S => S.env 8 = .int .i64 1 ∧ S.env 2 = .int .i64 0 ∧ S.heap = h) (n := 0) ⟨by simp (disch:=first|assumption|omega) only[go_sem,↓reduceIte,reduceIte], by simp (disch:=first|assumption|omega) only[go_sem,↓reduceIte,Nat.reduceEqDiff,reduceIte], by simp (disch:=first|assumption|omega) only[go_sem]⟩ ?_
  rintro d S ⟨e8, e2, eh⟩
  simp only[e8,e2,go_sem,↓reduceIte,Nat.reduceEqDiff,Nat.reduceLT,reduceIte,Int.reduceLT]
  subst hQ
  simp only[R.slices_insertionSortCmpFunc_sent,eh,go_sem]
theorem SortStableNil_ok (f : Nat) (h : List HObj) : ACalls Try.prog F.slices_SortStableFunc_sent [.lst .nil [], .func f []] h (fun v h' => v = .tup [] ∧ h' = h) := by
  have hst : ACalls Try.prog F.slices_stableCmpFunc_sent [.lst .nil [], .int .i64 0, .func f []] h (fun v h' => v = .tup [] ∧ h' = h) := by
    refine ACalls.of_aw Try.func199 K.slices_stableCmpFunc_sent (by simp [Try.f199]) ?_
    generalize hQ : retQ R.slices_stableCmpFunc_sent _ = Q
    simp only[C.slices_stableCmpFunc_sent,go_sem,↓reduceIte,Nat.reduceEqDiff,reduceIte]
    refine aw_count (fun d S => S.env 7 = .int .i64 0 ∧ S.env 8 = .int .i64 20 ∧ S.env 6 = .int .i64 20 ∧ S.env 0 = .lst .nil [] ∧ S.env 1 = .int .i64 0 ∧ S.env 2 = .func f [] ∧ S.heap = h) (n := 0) ⟨by simp only[go_sem,↓reduceIte,Nat.reduceEqDiff,reduceIte], by simp only[go_sem,↓reduceIte,reduceIte], by simp only[go_sem,↓reduceIte,Nat.reduceEqDiff,reduceIte], by simp only[go_sem,↓reduceIte,reduceCtorEq,reduceIte], by simp only[go_sem,↓reduceIte,Nat.reduceEqDiff,reduceIte], by simp only[go_sem,↓reduceIte,Nat.reduceEqDiff,reduceIte], by simp only[go_sem]⟩ ?_
    rintro d S ⟨e7, e8, e6, e0, e1, e2, eh⟩
    simp only[e7,e8,e0,e1,e2,go_sem,↓reduceIte,Nat.reduceEqDiff,reduceCtorEq,reduceIte,Int.reduceLE]
    refine callG_ok (insSentNil_ok f _) (by simp only[go_sem]) ?_
    rintro _ _ ⟨rfl, hhh⟩
    rw [hhh]
    clear hhh
    simp only[go_sem]
    refine aw_count (fun d S => S.env 6 = .int .i64 20 ∧ S.env 1 = .int .i64 0 ∧ S.heap = h) (n := 0) ⟨by simp only[e6,go_sem,↓reduceIte,Nat.reduceEqDiff,reduceIte], by simp only[e1,go_sem,↓reduceIte,Nat.reduceEqDiff,reduceIte], by simp only[eh,go_sem]⟩ ?_
    clear e7 e8 e6 e0 e1 e2 eh
    rintro d S ⟨e6, e1, eh⟩
    simp only[e6,e1,go_sem,↓reduceIte,Nat.reduceEqDiff,Nat.reduceLT,reduceIte,Int.reduceLT]
    subst hQ
    simp only[R.slices_stableCmpFunc_sent,eh,go_sem]
  refine ACalls.of_aw Try.func166 K.slices_SortStableFunc_sent (by simp [Try.f166]) ?_
  generalize hQ : retQ R.slices_SortStableFunc_sent _ = Q
  simp only[C.slices_SortStableFunc_sent,go_sem,↓reduceIte,Nat.reduceEqDiff,reduceCtorEq,reduceIte]
  refine callG_ok (hst) (by simp only[go_sem]) ?_
  rintro _ _ ⟨rfl, hhh⟩
  rw [hhh]
  clear hhh
  simp only[go_sem]
  subst hQ
  simp only[R.slices_SortStableFunc_sent,go_sem]
def cfDue (a b : Fl) : Int := IntKind.i64.wrap (a.2.2 - b.2.2)
theorem cmpDue_ok : CmpD F.net_Net_Take_1 cfDue := by
  intro a b h
  refine ACalls.of_aw Try.func167 K.net_Net_Take_1 (by simp [Try.f167]) ?_
  generalize hQ : retQ R.net_Net_Take_1 _ = Q
  simp only[C.net_Net_Take_1,go_sem,↓reduceIte,Nat.reduceEqDiff,reduceCtorEq,Nat.reduceLeDiff,reduceIte]
  simp only[flC,msgC,go_sem,Nat.reduceAdd,Int.reduceAdd]
  subst hQ
  simp (disch:=first|assumption|omega) only[R.net_Net_Take_1,go_sem,↓reduceIte,reduceIte]
  trace_state
  rfl
end Go.Proofs.Ytpdajkbfemcdlaa
namespace Go.Proofs.Ytpdajkbfemcdlaa
open Go.Ge
def Row0 (h : List HObj) (w : AVal) (L : List Fl) (id : Nat) : Prop :=
  w = .lst .nil [] ∧ L = [] ∨ ∃ cap rest, w = .ref id 0 L.length cap ∧ L.length ≤ cap ∧ h[id]? = some (.cells (L.flatMap flC ++ rest)) ∧ rest.length = (cap - L.length) * 7
theorem Row0.push {C : CallS} {r : AOpn → AVal} {hp : List HObj} {K : AVal → List HObj → Prop} {x y : AOpn} {id : Nat} {w v : AVal} {o : Own} {L : List Fl} {a : Fl}
    (hw : Row0 hp w L id) (hx : r x = w) (hy : r y = .lst o [v]) (hv : v.cells = flC a) (hvw : v.width = 7) (h1 : L.length ≤ 1000000)
    (hK : ∀ w' h' id', Row0 h' w' (L ++ [a]) id' → (∃ cap, w' = .ref id' 0 (L.length + 1) cap) → (Fr [] hp h' ∧ id' = hp.length ∨ Fr [id] hp h' ∧ id' = id ∧ w ≠ .lst .nil []) → K w' h') : hstep C r hp (.appendR 7 72 x y) K := by
  have hm : ([v].flatMap AVal.cells).map Ge.rdc = flC a := by
    rw [List.flatMap_cons, List.flatMap_nil, List.append_nil, hv]
    exact flC_rdc a
  have hfa := flC_len a
  have he : (L ++ [a]).flatMap flC = L.flatMap flC ++ flC a := by simp
  have hnew : ∀ cap, L.length + 1 ≤ cap → K (.ref hp.length 0 (L.length + 1) cap) (hp ++ [.cells (L.flatMap flC ++ flC a ++ List.replicate ((cap - (L.length + 1)) * 7) .junk)]) := by
    intro cap hc
    refine hK _ _ hp.length (.inr ⟨cap, List.replicate ((cap - (L.length + 1)) * 7) .junk, by simp, by simp; omega, ?_, by simp⟩) ⟨cap, rfl⟩ (.inl ⟨Fr.app, rfl⟩)
    rw [List.getElem?_append_right (Nat.le_refl _), Nat.sub_self, he]; simp
  simp only[hstep,srcH,srcW,hx,hy,hm]
  refine ⟨by simpa using hvw, ?_⟩
  rcases hw with ⟨rfl, rfl⟩ | ⟨cap, rest, rfl, hc, hh, hrest⟩
  · simp only[List.length_singleton]
    refine ⟨by omega, by omega, fun e => by omega, fun _ => ?_⟩
    intro cap hc
    have := hnew cap (by simpa using hc)
    simpa using this
  · simp only[List.length_singleton]
    have hl := flatF_len flC_len L
    refine ⟨by omega, by omega, fun e => by omega, fun _ hlt => ?_, fun _ hge => ?_⟩
    · simp only[hh]
      have hone : (cap - L.length) * 7 = (cap - (L.length + 1)) * 7 + 7 := by omega
      refine ⟨by simp only[List.length_append]; omega, ?_⟩
      refine hK _ _ id (.inr ⟨cap, rest.drop 7, by simp, by simp; omega, ?_, by rw [List.length_drop, List.length_append, hrest, hone]; simp⟩) ⟨cap, rfl⟩ (.inr ⟨Fr.set (by simp), rfl, by simp⟩)
      rw [List.getElem?_set_self (lt_of_get hh)]
      congr 2
      unfold fillV
      rw [hfa, Nat.zero_add, ← hl, List.take_left, he, List.drop_length_add_append]
    · have hsrc : srcH 7 hp (.ref id 0 L.length cap) = some (L.length, L.flatMap flC) := by
        simp only[srcH]
        split
        · rename_i e
          have : L = [] := List.eq_nil_of_length_eq_zero e
          subst this; rfl
        · rw [hh]
          simp only[]
          rw [if_pos (by simp only[List.length_append,hl]; omega)]
          congr 2
          rw [List.drop_zero, ← hl, List.take_left]
          conv => rhs; rw [← List.map_id (L.flatMap flC)]
          refine List.map_congr_left fun c hc => ?_
          obtain ⟨x, _, hx⟩ := List.mem_flatMap.1 hc
          exact (flC_st x c hx).2
      simp only[srcH] at hsrc
      rw [hsrc]
      simp only[]
      intro cap' hc'
      exact hnew cap' hc'
def flA (x : Fl) : AVal := .agg (flC x)
def outA (x : Fl) : AVal := msgA (ownB x.1) x.2.1
def KeptV (v : AVal) (K : List Fl) : Prop := v = .lst .nil [] ∧ K = [] ∨ v = .lst (.app 7) (K.map flA)
def isHere (to tick : Int) (x : Fl) : Bool := decide (x.2.1.To = to) && decide (x.2.2 ≤ tick)
def OutV (v : AVal) (L : List Fl) : Prop := v = .lst .nil [] ∧ L = [] ∨ v = .lst (.app 6) (L.map outA)
theorem at_fl {L : List Fl} {i : Nat} (h : i < L.length) : at_ (L.map flA) (i : Int) = .agg (flC L[i]) := by
  simp [at_, List.getD_eq_getElem?_getD, h, flA]
theorem filter_take {p : Fl → Bool} {L : List Fl} {i : Nat} (h : i < L.length) : (L.take (i + 1)).filter p = (L.take i).filter p ++ if p L[i] = true then [L[i]] else [] := by
  rw [List.take_add_one, List.getElem?_eq_getElem h, List.filter_append]
  simp only[Option.toList_some,List.filter_cons,List.filter_nil]
theorem NetTake_ok (nid : Nat) (fv kv : AVal) (tk tick to : Int) (Ms : List Fl) (hk : KeptV kv Ms) (hl : Ms.length ≤ 1000) (hfv : noBox fv = true) (h : List HObj) (hn : h[nid]? = some (.cells [fv, .int .i64 tk, kv])) :
    ACalls Try.prog F.net_Net_Take [.hp nid 0, .int .i64 tick, .int .i64 to] h (fun v h' => ∃ (L' : List Fl) (kv' : AVal), L'.Perm (Ms.filter (isHere to tick)) ∧ ((Ms.filter (isHere to tick)).length ≤ 20 → Flat cfDue (Ms.filter (isHere to tick)) → L' = Ms.filter (isHere to tick)) ∧ OutV v L' ∧ KeptV kv' (Ms.filter fun x => !isHere to tick x) ∧ h'[nid]? = some (.cells [fv, .int .i64 tk, kv']) ∧ Fr [nid] h h') := by
  have hnl := lt_of_get hn
  have hkq : ∃ o q, kv = .lst o (Ms.map flA) ∧ Ge.rdc kv = .lst q (Ms.map flA) ∧ Rdo q := by
    rcases hk with ⟨rfl, rfl⟩ | rfl
    · exact ⟨.nil, .nil, rfl, rfl, .inr rfl⟩
    · exact ⟨.app 7, .sh, rfl, rfl, .inl rfl⟩
  obtain ⟨o, q, rfl, hrk, hq⟩ := hkq
  have hlm : (Ms.map flA).length = Ms.length := List.length_map _
  refine ACalls.of_aw Try.func87 K.net_Net_Take (by simp [Try.f87]) ?_
  generalize hQ : retQ R.net_Net_Take _ = Q
  simp (disch:=first|assumption|omega) only[C.net_Net_Take,go_sem,↓reduceIte,reduceCtorEq,Nat.reduceLeDiff,reduceIte]
  simp (disch:=first|assumption|omega) only[hn,hrk,go_sem,Nat.reduceAdd,Nat.reduceLT,Int.reduceLT,Int.reduceAdd]
  refine aw_count (fun d S => ∃ (i id : Nat) (w : AVal), i + d = Ms.length ∧ S.env 19 = .int .i64 i ∧ S.env 18 = .int .i64 Ms.length ∧ S.env 17 = .lst q (Ms.map flA) ∧ S.env 0 = .hp nid 0 ∧ S.env 1 = .int .i64 tick ∧ S.env 2 = .int .i64 to ∧ S.env 7 = w ∧ Row0 S.heap w ((Ms.take i).filter (isHere to tick)) id ∧ (w = .lst .nil [] ∨ h.length ≤ id) ∧ KeptV (S.env 8) ((Ms.take i).filter fun x => !isHere to tick x) ∧ Fr [] h S.heap) (n := Ms.length)
    ⟨0, 0, .lst .nil [], by omega, by simp (disch:=first|assumption|omega) only[go_sem,↓reduceIte,reduceIte], by simp (disch:=first|assumption|omega) only[hlm,go_sem,↓reduceIte,Nat.reduceEqDiff,reduceIte], by simp (disch:=first|assumption|omega) only[go_sem,↓reduceIte,Nat.reduceEqDiff,reduceIte], by simp (disch:=first|assumption|omega) only[go_sem,↓reduceIte,reduceCtorEq,reduceIte], by simp (disch:=first|assumption|omega) only[go_sem,↓reduceIte,Nat.reduceEqDiff,reduceIte], by simp (disch:=first|assumption|omega) only[go_sem,↓reduceIte,Nat.reduceEqDiff,reduceIte], by simp (disch:=first|assumption|omega) only[go_sem,↓reduceIte,Nat.reduceEqDiff,reduceIte], .inl ⟨rfl, rfl⟩, .inl rfl, .inl ⟨by simp (disch:=first|assumption|omega) only[go_sem,↓reduceIte,Nat.reduceEqDiff,reduceIte], rfl⟩, by simp (disch:=first|assumption|omega) only[go_sem]; exact Fr.refl _ _⟩ ?_
  rintro d S ⟨i, id, w, hi, e19, e18, e17, e0, e1, e2, e7, hrow, hid, hkv, hfr⟩
  by_cases hlt : (i : Int) < Ms.length
  · have hi1 : i < Ms.length := by omega
    have hat := at_fl hi1
    have hh := filter_take (p := isHere to tick) hi1
    have hr := filter_take (p := fun x => !isHere to tick x) hi1
    have hli : ((Ms.take i).filter fun x => !isHere to tick x).length ≤ 1000 := Nat.le_trans (List.length_filter_le _ _) (by rw [List.length_take]; omega)
    have hlh : ((Ms.take i).filter (isHere to tick)).length ≤ 1000 := Nat.le_trans (List.length_filter_le _ _) (by rw [List.length_take]; omega)
    have hll : ∀ {w' : AVal} {h' : List HObj} {id' : Nat}, (Fr [] S.heap h' ∧ id' = S.heap.length ∨ Fr [id] S.heap h' ∧ id' = id ∧ w ≠ .lst .nil []) → Fr [] h h' ∧ h.length ≤ id' := by
      intro w' h' id' hc
      rcases hc with ⟨hf, rfl⟩ | ⟨hf, rfl, hne⟩
      · exact ⟨hfr.trans hf (by simp), hfr.1⟩
      · have := hid.resolve_left hne
        exact ⟨hfr.trans hf (fun j hj => by simp at hj; exact .inr (hj ▸ this)), this⟩
    generalize Ms[i] = x at *
    have hob := ownB_rdo x.1
    have hst := flC_all x
    obtain ⟨bx, mx, ux⟩ := x
    have hfx : flC (bx, mx, ux) = [.int .i64 ux, .int .i64 mx.Kind, .int .i64 mx.From, .int .i64 mx.To, .int .i64 mx.Seq, .int .u32 mx.Clock, .lst (ownB bx) (cellsA mx.Cells)] := rfl
    rw [hfx] at hat hst
    simp only at hob
    have hw7 : w = .lst .nil [] ∨ ∃ n cap, w = .ref id 0 n cap := hrow.imp (·.1) (fun ⟨cap, _, e, _⟩ => ⟨_, cap, e⟩)
    have hdr : ∀ a b c d, drV 10 (.ref a b c d) = .ref a b c d := fun _ _ _ _ => rfl
    have hdl : ∀ o l, drV 10 (.lst o l) = .lst o l := fun _ _ => rfl
    by_cases c1 : mx.To = to
    · by_cases c2 : ux ≤ tick
      · subst c1
        have hv : isHere mx.To tick (bx, mx, ux) = true := by simp [isHere, c2]
        rw [hv, if_pos rfl] at hh
        rw [hv, if_neg (by simp), List.append_nil] at hr
        rcases hkv with ⟨e8, e8'⟩ | e8
        all_goals
          rcases hw7 with rfl | ⟨n7, cap7, rfl⟩
          all_goals
            simp (disch:=first|assumption|omega) only[e19,e18,e17,e1,e2,e7,hlt,hat,c2,hlm,fillV,hdr,go_sem,↓reduceIte,Nat.reduceEqDiff,Nat.reduceAdd,Nat.reduceLeDiff,reduceIte,Int.reduceAdd,Int.reduceMul,Nat.reduceMul]
            rw [aops_hop]
            refine Row0.push (a := (bx, mx, ux)) (by simp (disch:=first|assumption|omega) only[go_sem]; exact hrow) (o := .sh) (v := .agg (flC (bx, mx, ux))) (by simp (disch:=first|assumption|omega) only[go_sem,↓reduceIte,Nat.reduceEqDiff,reduceIte]) (by simp (disch:=first|assumption|omega) only[hfx,go_sem,↓reduceIte,reduceIte]) rfl rfl (by omega) ?_
            rintro w' h' id' hrow' ⟨cap', rfl⟩ hc
            obtain ⟨hf2, hid2⟩ := hll (w' := .lst .nil []) (by simpa only [go_sem] using hc)
            simp (disch:=first|assumption|omega) only[e19,e18,e17,e0,e1,e2,e8,go_sem,↓reduceIte,Nat.reduceEqDiff,reduceCtorEq,reduceIte]
            first
              | exact ⟨d - 1, by omega, i + 1, id', _, by omega, by simp, rfl, rfl, by rw [hh]; exact hrow', .inr hid2, .inl ⟨rfl, by rw [hr]; exact e8'⟩, hf2⟩
              | exact ⟨d - 1, by omega, i + 1, id', _, by omega, by simp, rfl, by rw [hh]; exact hrow', .inr hid2, .inl ⟨rfl, by rw [hr]; exact e8'⟩, hf2⟩
              | exact ⟨d - 1, by omega, i + 1, id', _, by omega, by simp, rfl, rfl, by rw [hh]; exact hrow', .inr hid2, .inr (by rw [hr]), hf2⟩
              | exact ⟨d - 1, by omega, i + 1, id', _, by omega, by simp, rfl, by rw [hh]; exact hrow', .inr hid2, .inr (by rw [hr]), hf2⟩
      · subst c1
        have hv : isHere mx.To tick (bx, mx, ux) = false := by simp [isHere, c2]
        rw [hv, if_neg (by simp), List.append_nil] at hh
        rw [hv, if_pos (by simp)] at hr
        rcases hkv with ⟨e8, e8'⟩ | e8
        all_goals
          rcases hw7 with rfl | ⟨n7, cap7, rfl⟩
          all_goals
            simp (disch:=first|assumption|omega) only[e19,e18,e17,e0,e1,e2,e7,e8,hlt,hat,c2,hlm,fillV,hdr,go_sem,↓reduceIte,Nat.reduceEqDiff,reduceCtorEq,Nat.reduceAdd,Nat.reduceLeDiff,reduceIte,Int.reduceAdd,Int.reduceMul,Nat.reduceMul]
            first
              | exact ⟨d - 1, by omega, i + 1, id, _, by omega, by simp, rfl, by rw [hh]; exact hrow, hid, .inr (by rw [hr, e8']; rfl), hfr⟩
              | exact ⟨by rw [List.length_map]; omega, by rw [List.length_map]; omega, d - 1, by omega, i + 1, id, _, by omega, by simp, rfl, by rw [hh]; exact hrow, hid, .inr (by rw [hr, List.map_append]; rfl), hfr⟩
    · have hv : isHere to tick (bx, mx, ux) = false := by simp [isHere, c1]
      rw [hv, if_neg (by simp), List.append_nil] at hh
      rw [hv, if_pos (by simp)] at hr
      rcases hkv with ⟨e8, e8'⟩ | e8
      all_goals
        rcases hw7 with rfl | ⟨n7, cap7, rfl⟩
        all_goals
          simp (disch:=first|assumption|omega) only[e19,e18,e17,e0,e1,e2,e7,e8,hlt,hat,c1,hlm,fillV,hdr,go_sem,↓reduceIte,Nat.reduceEqDiff,reduceCtorEq,Nat.reduceAdd,Nat.reduceLeDiff,reduceIte,Int.reduceAdd,Int.reduceMul,Nat.reduceMul]
          first
            | exact ⟨d - 1, by omega, i + 1, id, _, by omega, by simp, rfl, by rw [hh]; exact hrow, hid, .inr (by rw [hr, e8']; rfl), hfr⟩
            | exact ⟨by rw [List.length_map]; omega, by rw [List.length_map]; omega, d - 1, by omega, i + 1, id, _, by omega, by simp, rfl, by rw [hh]; exact hrow, hid, .inr (by rw [hr, List.map_append]; rfl), hfr⟩
  · obtain rfl : i = Ms.length := by omega
    rw [List.take_length] at hrow hkv
    have hnS : S.heap[nid]? = some (.cells [fv, .int .i64 tk, .lst o (Ms.map flA)]) := hfr.get (by simp) hn
    have hlh : (Ms.filter (isHere to tick)).length ≤ 1000 := Nat.le_trans (List.length_filter_le _ _) hl
    have hkv2 : ∃ kv', S.env 8 = kv' ∧ KeptV kv' (Ms.filter fun x => !isHere to tick x) ∧ (kv' = .lst .nil [] ∨ ∃ l, kv' = .lst (.app 7) l) := ⟨_, rfl, hkv, hkv.imp (·.1) fun e => ⟨_, e⟩⟩
    obtain ⟨kv', e8, hkv3, hkc⟩ := hkv2
    have hset : ∀ X, (S.heap.set nid X)[nid]? = some X := fun X => List.getElem?_set_self (lt_of_get hnS)
    have hfr2 : ∀ X, Fr [nid] h (S.heap.set nid X) := fun X => (hfr.mono (by simp)).trans (Fr.set (by simp)) (fun i hi => .inl hi)
    generalize hLH : Ms.filter (isHere to tick) = LH at *
    rcases hrow with ⟨rfl, hnil⟩ | ⟨cap, rest, rfl, hcap, hrh, hrr⟩
    · rcases hkc with rfl | ⟨lk, rfl⟩
      · simp only[e19,e18,e0,e7,e8,hlt,hnS,fillV,go_sem,↓reduceIte,Nat.reduceEqDiff,reduceCtorEq,Nat.reduceAdd,Nat.reduceLeDiff,reduceIte,Int.reduceAdd]
        refine callG_ok (SortStableNil_ok F.net_Net_Take_1 _) (by simp only[go_sem]) ?_
        rintro _ _ ⟨rfl, hhh⟩
        rw [hhh]
        clear hhh
        simp only[e7,go_sem,↓reduceIte,Nat.reduceEqDiff,reduceIte]
        refine aw_count (fun d S2 => S2.env 51 = .int .i64 0 ∧ S2.env 50 = .int .i64 0 ∧ S2.env 11 = .lst .nil [] ∧ S2.heap = S.heap.set nid (.cells [fv, .int .i64 tk, .lst .nil []])) (n := 0) ⟨by simp only[go_sem,↓reduceIte,reduceIte], by simp only[go_sem,↓reduceIte,Nat.reduceEqDiff,reduceIte], by simp only[go_sem,↓reduceIte,Nat.reduceEqDiff,reduceIte], by simp only[go_sem]⟩ ?_
        rintro d2 S2 ⟨g51, g50, g11, gh⟩
        simp only[g51,g50,g11,go_sem,↓reduceIte,Nat.reduceEqDiff,Nat.reduceLT,reduceIte,Int.reduceLT]
        subst hQ
        simp only[R.net_Net_Take,go_sem,↓reduceIte,reduceIte]
        exact ⟨[], _, by rw [hnil], fun _ _ => hnil.symm, .inl ⟨rfl, rfl⟩, hkv3, by rw [gh]; exact hset _, by rw [gh]; exact hfr2 _⟩
      · simp only[e19,e18,e0,e7,e8,hlt,hnS,fillV,go_sem,↓reduceIte,Nat.reduceEqDiff,reduceCtorEq,Nat.reduceAdd,Nat.reduceLeDiff,reduceIte,Int.reduceAdd]
        refine callG_ok (SortStableNil_ok F.net_Net_Take_1 _) (by simp only[go_sem]) ?_
        rintro _ _ ⟨rfl, hhh⟩
        rw [hhh]
        clear hhh
        simp only[e7,go_sem,↓reduceIte,Nat.reduceEqDiff,reduceIte]
        refine aw_count (fun d S2 => S2.env 51 = .int .i64 0 ∧ S2.env 50 = .int .i64 0 ∧ S2.env 11 = .lst .nil [] ∧ S2.heap = S.heap.set nid (.cells [fv, .int .i64 tk, .lst (.app 7) lk])) (n := 0) ⟨by simp only[go_sem,↓reduceIte,reduceIte], by simp only[go_sem,↓reduceIte,Nat.reduceEqDiff,reduceIte], by simp only[go_sem,↓reduceIte,Nat.reduceEqDiff,reduceIte], by simp only[go_sem]⟩ ?_
        rintro d2 S2 ⟨g51, g50, g11, gh⟩
        simp only[g51,g50,g11,go_sem,↓reduceIte,Nat.reduceEqDiff,Nat.reduceLT,reduceIte,Int.reduceLT]
        subst hQ
        simp only[R.net_Net_Take,go_sem,↓reduceIte,reduceIte]
        exact ⟨[], _, by rw [hnil], fun _ _ => hnil.symm, .inl ⟨rfl, rfl⟩, hkv3, by rw [gh]; exact hset _, by rw [gh]; exact hfr2 _⟩
    · have hidl : h.length ≤ id := hid.resolve_left (by simp)
      have hne : id ≠ nid := by omega
      have hrh2 : ∀ X, (S.heap.set nid X)[id]? = some (.cells (LH.flatMap flC ++ rest)) := fun X => by rw [List.getElem?_set_ne (Ne.symm hne)]; exact hrh
      rcases hkc with rfl | ⟨lk, rfl⟩
      · simp only[e19,e18,e0,e7,e8,hlt,hnS,fillV,go_sem,↓reduceIte,Nat.reduceEqDiff,reduceCtorEq,Nat.reduceAdd,Nat.reduceLeDiff,reduceIte,Int.reduceAdd]
        refine callG_ok (SortStable_ok F.net_Net_Take_1 cfDue cmpDue_ok id cap LH.length rest (by omega) LH _ rfl (hrh2 _)) (by simp only[go_sem]) ?_
        rintro _ _ ⟨rfl, L', hp, hfl, hhh⟩
        rw [hhh]
        clear hhh
        simp only[e7,go_sem,↓reduceIte,Nat.reduceEqDiff,reduceIte]
        have hll := hp.length_eq
        generalize hH : (S.heap.set nid (.cells [fv, .int .i64 tk, .lst .nil []])).set id (.cells (L'.flatMap flC ++ rest)) = H2
        have hH2 : H2[id]? = some (.cells (L'.flatMap flC ++ rest)) := by rw [← hH]; exact List.getElem?_set_self (by rw [List.length_set]; exact lt_of_get hrh)
        have hHn : H2[nid]? = some (.cells [fv, .int .i64 tk, .lst .nil []]) := by rw [← hH, List.getElem?_set_ne hne]; exact hset _
        have hHf : Fr [nid] h H2 := by rw [← hH]; exact (hfr2 _).trans (Fr.set (S := [id]) (by simp)) (fun j hj => by simp at hj; exact .inr (hj ▸ hidl))
        refine aw_count (fun d S2 => ∃ (i : Nat) (w : AVal), i + d = LH.length ∧ S2.env 51 = .int .i64 i ∧ S2.env 50 = .int .i64 LH.length ∧ S2.env 49 = .ref id 0 LH.length cap ∧ S2.env 11 = w ∧ OutV w (L'.take i) ∧ S2.heap = H2) (n := LH.length) ⟨0, .lst .nil [], by omega, by simp (disch:=first|assumption|omega) only[go_sem,↓reduceIte,reduceIte], by simp (disch:=first|assumption|omega) only[go_sem,↓reduceIte,Nat.reduceEqDiff,reduceIte], by simp (disch:=first|assumption|omega) only[go_sem,↓reduceIte,Nat.reduceEqDiff,reduceIte], by simp (disch:=first|assumption|omega) only[go_sem,↓reduceIte,Nat.reduceEqDiff,reduceIte], .inl ⟨rfl, rfl⟩, by simp (disch:=first|assumption|omega) only[go_sem]⟩ ?_
        clear e19 e18 e17 e0 e1 e2 e7 hlt hid
        rintro d2 S2 ⟨j, w, hj, g51, g50, g49, g11, how, gh⟩
        by_cases hlt : (j : Int) < LH.length
        · have hj1 : j < L'.length := by omega
          have q1 := rowGet (rest := rest) hj1
          have hlen := rowLen L' rest
          have htk : L'.take (j + 1) = L'.take j ++ [L'[j]] := by rw [List.take_add_one, List.getElem?_eq_getElem hj1]; rfl
          have htl : (L'.take j).length ≤ 1000 := by rw [List.length_take]; omega
          have htm : ((L'.take j).map outA).length = (L'.take j).length := List.length_map _
          generalize L'[j] = x at *
          obtain ⟨bx, mx, ux⟩ := x
          have hob := ownB_rdo bx
          have hst := flC_all (bx, mx, ux)
          have hfx : flC (bx, mx, ux) = [.int .i64 ux, .int .i64 mx.Kind, .int .i64 mx.From, .int .i64 mx.To, .int .i64 mx.Seq, .int .u32 mx.Clock, .lst (ownB bx) (cellsA mx.Cells)] := rfl
          rw [hfx] at q1 hst
          rcases how with ⟨rfl, hn0⟩ | rfl
          · simp (disch:=first|assumption|omega) only[g51,g50,g49,g11,gh,hlt,hH2,q1,hlen,fillV,hst,go_sem,↓reduceIte,Nat.reduceEqDiff,Nat.reduceAdd,Nat.reduceLeDiff,reduceIte,Int.reduceAdd,Int.reduceMul,Nat.reduceMul]
            exact ⟨by omega, d2 - 1, by omega, j + 1, _, by omega, by simp, rfl, rfl, .inr (by rw [htk, hn0]; rfl)⟩
          · simp (disch:=first|assumption|omega) only[g51,g50,g49,g11,gh,hlt,hH2,q1,hlen,fillV,hst,go_sem,↓reduceIte,Nat.reduceEqDiff,Nat.reduceAdd,Nat.reduceLeDiff,reduceIte,Int.reduceAdd,Int.reduceMul,Nat.reduceMul]
            exact ⟨by omega, by omega, by omega, d2 - 1, by omega, j + 1, _, by omega, by simp, rfl, rfl, .inr (by rw [htk, List.map_append]; rfl)⟩
        · obtain rfl : j = LH.length := by omega
          rw [← hll, List.take_length] at how
          simp only[g51,g50,g11,hlt,go_sem,↓reduceIte,Nat.reduceEqDiff,reduceIte]
          have how2 := how
          rcases how with ⟨rfl, _⟩ | rfl
          · subst hQ
            simp only[R.net_Net_Take,go_sem,↓reduceIte,reduceIte]
            exact ⟨L', _, hp, fun hl20 hF => hfl hl20 hF, how2, hkv3, by rw [gh]; exact hHn, by rw [gh]; exact hHf⟩
          · subst hQ
            simp only[R.net_Net_Take,go_sem,↓reduceIte,reduceIte]
            exact ⟨L', _, hp, fun hl20 hF => hfl hl20 hF, how2, hkv3, by rw [gh]; exact hHn, by rw [gh]; exact hHf⟩
      · simp only[e19,e18,e0,e7,e8,hlt,hnS,fillV,go_sem,↓reduceIte,Nat.reduceEqDiff,reduceCtorEq,Nat.reduceAdd,Nat.reduceLeDiff,reduceIte,Int.reduceAdd]
        refine callG_ok (SortStable_ok F.net_Net_Take_1 cfDue cmpDue_ok id cap LH.length rest (by omega) LH _ rfl (hrh2 _)) (by simp only[go_sem]) ?_
        rintro _ _ ⟨rfl, L', hp, hfl, hhh⟩
        rw [hhh]
        clear hhh
        simp only[e7,go_sem,↓reduceIte,Nat.reduceEqDiff,reduceIte]
        have hll := hp.length_eq
        generalize hH : (S.heap.set nid (.cells [fv, .int .i64 tk, .lst (.app 7) lk])).set id (.cells (L'.flatMap flC ++ rest)) = H2
        have hH2 : H2[id]? = some (.cells (L'.flatMap flC ++ rest)) := by rw [← hH]; exact List.getElem?_set_self (by rw [List.length_set]; exact lt_of_get hrh)
        have hHn : H2[nid]? = some (.cells [fv, .int .i64 tk, .lst (.app 7) lk]) := by rw [← hH, List.getElem?_set_ne hne]; exact hset _
        have hHf : Fr [nid] h H2 := by rw [← hH]; exact (hfr2 _).trans (Fr.set (S := [id]) (by simp)) (fun j hj => by simp at hj; exact .inr (hj ▸ hidl))
        refine aw_count (fun d S2 => ∃ (i : Nat) (w : AVal), i + d = LH.length ∧ S2.env 51 = .int .i64 i ∧ S2.env 50 = .int .i64 LH.length ∧ S2.env 49 = .ref id 0 LH.length cap ∧ S2.env 11 = w ∧ OutV w (L'.take i) ∧ S2.heap = H2) (n := LH.length) ⟨0, .lst .nil [], by omega, by simp (disch:=first|assumption|omega) only[go_sem,↓reduceIte,reduceIte], by simp (disch:=first|assumption|omega) only[go_sem,↓reduceIte,Nat.reduceEqDiff,reduceIte], by simp (disch:=first|assumption|omega) only[go_sem,↓reduceIte,Nat.reduceEqDiff,reduceIte], by simp (disch:=first|assumption|omega) only[go_sem,↓reduceIte,Nat.reduceEqDiff,reduceIte], .inl ⟨rfl, rfl⟩, by simp (disch:=first|assumption|omega) only[go_sem]⟩ ?_
        clear e19 e18 e17 e0 e1 e2 e7 hlt hid
        rintro d2 S2 ⟨j, w, hj, g51, g50, g49, g11, how, gh⟩
        by_cases hlt : (j : Int) < LH.length
        · have hj1 : j < L'.length := by omega
          have q1 := rowGet (rest := rest) hj1
          have hlen := rowLen L' rest
          have htk : L'.take (j + 1) = L'.take j ++ [L'[j]] := by rw [List.take_add_one, List.getElem?_eq_getElem hj1]; rfl
          have htl : (L'.take j).length ≤ 1000 := by rw [List.length_take]; omega
          have htm : ((L'.take j).map outA).length = (L'.take j).length := List.length_map _
          generalize L'[j] = x at *
          obtain ⟨bx, mx, ux⟩ := x
          have hob := ownB_rdo bx
          have hst := flC_all (bx, mx, ux)
          have hfx : flC (bx, mx, ux) = [.int .i64 ux, .int .i64 mx.Kind, .int .i64 mx.From, .int .i64 mx.To, .int .i64 mx.Seq, .int .u32 mx.Clock, .lst (ownB bx) (cellsA mx.Cells)] := rfl
          rw [hfx] at q1 hst
          rcases how with ⟨rfl, hn0⟩ | rfl
          · simp (disch:=first|assumption|omega) only[g51,g50,g49,g11,gh,hlt,hH2,q1,hlen,fillV,hst,go_sem,↓reduceIte,Nat.reduceEqDiff,Nat.reduceAdd,Nat.reduceLeDiff,reduceIte,Int.reduceAdd,Int.reduceMul,Nat.reduceMul]
            exact ⟨by omega, d2 - 1, by omega, j + 1, _, by omega, by simp, rfl, rfl, .inr (by rw [htk, hn0]; rfl)⟩
          · simp (disch:=first|assumption|omega) only[g51,g50,g49,g11,gh,hlt,hH2,q1,hlen,fillV,hst,go_sem,↓reduceIte,Nat.reduceEqDiff,Nat.reduceAdd,Nat.reduceLeDiff,reduceIte,Int.reduceAdd,Int.reduceMul,Nat.reduceMul]
            exact ⟨by omega, by omega, by omega, d2 - 1, by omega, j + 1, _, by omega, by simp, rfl, rfl, .inr (by rw [htk, List.map_append]; rfl)⟩
        · obtain rfl : j = LH.length := by omega
          rw [← hll, List.take_length] at how
          simp only[g51,g50,g11,hlt,go_sem,↓reduceIte,Nat.reduceEqDiff,reduceIte]
          have how2 := how
          rcases how with ⟨rfl, _⟩ | rfl
          · subst hQ
            simp only[R.net_Net_Take,go_sem,↓reduceIte,reduceIte]
            exact ⟨L', _, hp, fun hl20 hF => hfl hl20 hF, how2, hkv3, by rw [gh]; exact hHn, by rw [gh]; exact hHf⟩
          · subst hQ
            simp only[R.net_Net_Take,go_sem,↓reduceIte,reduceIte]
            exact ⟨L', _, hp, fun hl20 hF => hfl hl20 hF, how2, hkv3, by rw [gh]; exact hHn, by rw [gh]; exact hHf⟩
end Go.Proofs.Ytpdajkbfemcdlaa
namespace Go.Proofs.Ytpdajkbfemcdlaa
open Go.Ge
theorem at_fault {D : List Fault} {i : Nat} (h : i < D.length) : at_ (faultsA D) (i : Int) = faultA D[i] := by
  simp [at_, faultsA, List.getD_eq_getElem?_getD, h]
end Go.Proofs.Ytpdajkbfemcdlaa
namespace Go.Proofs.Ytpdajkbfemcdlaa
open Go.Ge
def stepS (tick frm : Int) (p : Int × Int) (f : Fault) : Int × Int :=
  if f.Tick = tick then (min (if f.Kind = 0 ∧ f.N = frm then 0 else if f.Kind = 1 ∧ f.N = frm then p.1 * 2 else p.1) 2, if f.Kind = 2 ∧ 0 < f.N ∧ f.N ≤ 2000 then max p.2 f.N else p.2) else p
def sendP (fs : List Fault) (tick frm : Int) : Int × Int := fs.foldl (stepS tick frm) (1, 0)
theorem sendP_bd (fs : List Fault) (tick frm : Int) : 0 ≤ (sendP fs tick frm).1 ∧ (sendP fs tick frm).1 ≤ 2 ∧ 0 ≤ (sendP fs tick frm).2 ∧ (sendP fs tick frm).2 ≤ 2000 := by
  have key : ∀ (fs : List Fault) (p : Int × Int), 0 ≤ p.1 ∧ p.1 ≤ 2 ∧ 0 ≤ p.2 ∧ p.2 ≤ 2000 → 0 ≤ (fs.foldl (stepS tick frm) p).1 ∧ (fs.foldl (stepS tick frm) p).1 ≤ 2 ∧ 0 ≤ (fs.foldl (stepS tick frm) p).2 ∧ (fs.foldl (stepS tick frm) p).2 ≤ 2000 := by
    intro fs
    induction fs with
    | nil => intro p h; exact h
    | cons f fs ih =>
      intro p h
      rw [List.foldl_cons]
      refine ih _ ?_
      unfold stepS
      split
      · simp only
        refine ⟨?_, ?_, ?_, ?_⟩ <;> (repeat split) <;> omega
      · exact h
  exact key fs (1, 0) ⟨by decide, by decide, by decide, by decide⟩
theorem sendP_take {fs : List Fault} {tick frm : Int} {i : Nat} (h : i < fs.length) : sendP (fs.take (i + 1)) tick frm = stepS tick frm (sendP (fs.take i) tick frm) fs[i] := by
  unfold sendP
  rw [List.take_add_one, List.getElem?_eq_getElem h, List.foldl_append]; rfl
def sendE (fs : List Fault) (tk : Int) (n : Nat) (tick : Int) (m : Msg) : Int :=
  if tick < 0 ∨ 2000 < tick then 1 else if tick < tk then 9 else if checkF m ≠ 0 then checkF m else if 1000 < n + (sendP fs tick m.From).1 then 6 else 0
def NetR (h : List HObj) (nid : Nat) (fs : List Fault) (tk : Int) (Ms : List Fl) : Prop :=
  ∃ (fo : Own) (kv : AVal), h[nid]? = some (.cells [.lst fo (faultsA fs), .int .i64 tk, kv]) ∧ (∃ q, Rdo q ∧ Ge.rdc (.lst fo (faultsA fs)) = .lst q (faultsA fs)) ∧ KeptV kv Ms ∧ Ms.length ≤ 1000
theorem KeptV.cases {kv : AVal} {Ms : List Fl} (hk : KeptV kv Ms) : ∃ o q, kv = .lst o (Ms.map flA) ∧ Ge.rdc kv = .lst q (Ms.map flA) ∧ Rdo q := by
  rcases hk with ⟨rfl, rfl⟩ | rfl
  · exact ⟨.nil, .nil, rfl, rfl, .inr rfl⟩
  · exact ⟨.app 7, .sh, rfl, rfl, .inl rfl⟩
theorem Kept_ok (nid : Nat) (fs : List Fault) (tk : Int) (Ms : List Fl) (h : List HObj) (hr : NetR h nid fs tk Ms) :
    ACalls Try.prog F.net_Net_Kept [.hp nid 0] h (fun v h' => v = .int .i64 Ms.length ∧ h' = h) := by
  obtain ⟨fo, kv, h1, ⟨qf, hqf, hrf⟩, hk, hl⟩ := hr
  obtain ⟨o, q, rfl, hrk, hq⟩ := hk.cases
  have hlm : (Ms.map flA).length = Ms.length := List.length_map _
  refine ACalls.of_aw Try.func90 K.net_Net_Kept (by simp [Try.f90]) ?_
  generalize hQ : retQ R.net_Net_Kept _ = Q
  simp (disch:=first|assumption|omega) only[C.net_Net_Kept,go_sem,↓reduceIte,reduceCtorEq,Nat.reduceLeDiff,reduceIte]
  simp (disch:=first|assumption|omega) only[h1,hrk,hlm,go_sem,Nat.reduceAdd,Nat.reduceLT,Int.reduceLT,Int.reduceAdd]
  subst hQ
  simp (disch:=first|assumption|omega) only[R.net_Net_Kept,go_sem,↓reduceIte,reduceIte]
theorem CloneFault_ok (o : Own) (fs : List Fault) (ho : Rdn o fs) (hl : fs.length ≤ 5864062014805) (h : List HObj) :
    ACalls Try.prog F.slices_Clone_Fault [.lst o (faultsA fs)] h (fun v h' => (∃ o' q, v = .lst o' (faultsA fs) ∧ Rdo q ∧ Ge.rdc v = .lst q (faultsA fs) ∧ (o' = .nil ∨ o' = .app 3)) ∧ h' = h) := by
  have lc : (faultsA fs).length = fs.length := by simp [faultsA]
  have h1 := ho.1
  refine ACalls.of_aw Try.func165 K.slices_Clone_Fault (by simp [Try.f165]) ?_
  generalize hQ : retQ R.slices_Clone_Fault _ = Q
  simp (disch:=first|assumption|omega) only[C.slices_Clone_Fault,go_sem,↓reduceIte,reduceCtorEq,reduceIte]
  refine aops_isnilR (o := o) (xs := faultsA fs) (by simp (disch:=first|assumption|omega) only[go_sem,↓reduceIte,reduceIte]) h1 (fun e => by have := ho.2 e; subst this; rfl) fun b hb => ?_
  cases b
  · simp (disch:=first|assumption|omega) only[lc,go_sem,↓reduceIte,Nat.reduceEqDiff,reduceCtorEq,Nat.reduceLeDiff,reduceIte]
    refine ⟨fun x hx => by obtain ⟨y, _, rfl⟩ := List.mem_map.1 hx; rfl, by omega, by omega, ?_⟩
    subst hQ
    simp (disch:=first|assumption|omega) only[R.slices_Clone_Fault,go_sem,↓reduceIte,reduceIte]
    exact ⟨_, .sh, rfl, .inl rfl, rfl, .inr rfl⟩
  · have : faultsA fs = [] := by
      refine Classical.byContradiction fun h0 => ?_
      have := hb h0
      cases this
    simp (disch:=first|assumption|omega) only[go_sem,↓reduceIte,reduceIte]
    subst hQ
    simp (disch:=first|assumption|omega) only[R.slices_Clone_Fault,go_sem,↓reduceIte,reduceIte]
    exact ⟨.nil, .nil, by rw [this], .inr rfl, by rw [this], .inl rfl⟩
theorem NetNew_ok (o : Own) (fs : List Fault) (ho : Rdn o fs) (hl : fs.length ≤ 5864062014805) (h : List HObj) :
    ACalls Try.prog F.net_New [.lst o (faultsA fs)] h (fun v h' => v = .hp h.length 0 ∧ (∃ x, h' = h ++ [x]) ∧ NetR h' h.length fs 0 []) := by
  have lc : (faultsA fs).length = fs.length := by simp [faultsA]
  have h1 := ho.1
  refine ACalls.of_aw Try.func84 K.net_New (by simp [Try.f84]) ?_
  generalize hQ : retQ R.net_New _ = Q
  simp (disch:=first|assumption|omega) only[C.net_New,go_sem,↓reduceIte,reduceCtorEq,reduceIte]
  rcases h1 with rfl | rfl
  all_goals
    refine callG_ok (CloneFault_ok _ fs ho hl _) (by simp (disch:=first|assumption|omega) only[go_sem]) ?_
    rintro _ _ ⟨⟨o', q, rfl, hq, hrd, hc⟩, hhh⟩
    rw [hhh]
    clear hhh
    rcases hc with rfl | rfl
    all_goals
      simp (disch:=first|assumption|omega) only[go_sem,↓reduceIte,Nat.reduceAdd,Nat.reduceLeDiff,reduceIte,Int.reduceAdd]
      subst hQ
      simp (disch:=first|assumption|omega) only[R.net_New,go_sem,↓reduceIte,reduceIte]
      exact ⟨⟨_, rfl⟩, _, _, List.getElem?_concat_length, by first | exact ⟨.sh, .inl rfl, rfl⟩ | exact ⟨.nil, .inr rfl, rfl⟩, .inl ⟨rfl, rfl⟩, by simp⟩
theorem NetSend_ok (nid : Nat) (fs : List Fault) (tk tick : Int) (Ms : List Fl) (q : Own) (m : Msg) (hq : Rdn q m.Cells) (hl : m.Cells.length * 16 ≤ reachBytes) (hfl : fs.length ≤ 5864062014805) (h : List HObj) (hr : NetR h nid fs tk Ms) :
    ACalls Try.prog F.net_Net_Send [.hp nid 0, .int .i64 tick, msgA q m] h (fun v h' => v = .int .i64 (sendE fs tk Ms.length tick m) ∧ (sendE fs tk Ms.length tick m ≠ 0 → h' = h) ∧
      (sendE fs tk Ms.length tick m = 0 → Fr [nid] h h' ∧ ∃ Ns : List Fl, Ns.map (·.2) = List.replicate (sendP fs tick m.From).1.toNat (m, tick + 1 + (sendP fs tick m.From).2) ∧ (∀ x ∈ Ns, x.1 = false → x.2.1.Cells = []) ∧ NetR h' nid fs tick (Ms ++ Ns))) := by
  obtain ⟨fo, kv, h1, ⟨qf, hqf, hrf⟩, hk, hml⟩ := hr
  have hlf : (faultsA fs).length = fs.length := by simp [faultsA]
  have hq1 := hq.1
  have hbd := sendP_bd fs tick m.From
  have hsm : storable (msgA q m) = true := by rcases hq1 with rfl | rfl <;> rfl
  refine ACalls.of_aw Try.func85 K.net_Net_Send (by simp [Try.f85]) ?_
  generalize hQ : retQ R.net_Net_Send _ = Q
  simp (disch:=first|assumption|omega) only[C.net_Net_Send,go_sem,↓reduceIte,Nat.reduceEqDiff,reduceIte]
  by_cases a1 : tick < 0
  · have e : sendE fs tk Ms.length tick m = 1 := by unfold sendE; rw [if_pos (.inl a1)]
    simp (disch:=first|assumption|omega) only[hsm,a1,go_sem,↓reduceIte,Nat.reduceEqDiff,reduceIte]
    subst hQ
    simp (disch:=first|assumption|omega) only[R.net_Net_Send,e,go_sem,↓reduceIte,reduceIte,Int.reduceEq,Int.reduceNe]
  by_cases a2 : 2000 < tick
  · have e : sendE fs tk Ms.length tick m = 1 := by unfold sendE; rw [if_pos (.inr a2)]
    simp (disch:=first|assumption|omega) only[hsm,a1,a2,go_sem,↓reduceIte,Nat.reduceEqDiff,reduceIte]
    subst hQ
    simp (disch:=first|assumption|omega) only[R.net_Net_Send,e,go_sem,↓reduceIte,reduceIte,Int.reduceEq,Int.reduceNe]
  by_cases a3 : tick < tk
  · have e : sendE fs tk Ms.length tick m = 9 := by unfold sendE; rw [if_neg (by omega), if_pos a3]
    simp (disch:=first|assumption|omega) only[hsm,a1,a2,a3,h1,go_sem,↓reduceIte,Nat.reduceEqDiff,reduceCtorEq,Nat.reduceAdd,Nat.reduceLeDiff,reduceIte,Int.reduceAdd]
    subst hQ
    simp (disch:=first|assumption|omega) only[R.net_Net_Send,e,go_sem,↓reduceIte,reduceIte,Int.reduceEq,Int.reduceNe]
  simp (disch:=first|assumption|omega) only[a1,a2,a3,h1,msgA,msgC,go_sem,↓reduceIte,Nat.reduceEqDiff,reduceCtorEq,Nat.reduceAdd,Nat.reduceLeDiff,reduceIte,Int.reduceAdd]
  refine callG_ok (Check_ok q m hq1 (by unfold reachBytes at hl; omega) _) (by simp (disch:=first|assumption|omega) only[go_sem]) ?_
  rintro _ _ ⟨rfl, hhh⟩
  rw [hhh]
  clear hhh
  by_cases hc : checkF m = 0
  · simp (disch:=first|assumption|omega) only[hc,h1,hrf,hlf,go_sem,↓reduceIte,reduceCtorEq,Nat.reduceAdd,Nat.reduceLeDiff,reduceIte,Int.reduceAdd]
    refine aw_count (fun d S => ∃ (i : Nat), i + d = fs.length ∧ S.env 34 = .int .i64 i ∧ S.env 33 = .int .i64 fs.length ∧ S.env 32 = .lst qf (faultsA fs) ∧ S.env 0 = .hp nid 0 ∧ S.env 1 = .int .i64 tick ∧ S.env 5 = .box 5 0 ∧ S.boxes 5 = some (msgC q m) ∧ S.env 8 = .int .i64 (sendP (fs.take i) tick m.From).1 ∧ S.env 9 = .int .i64 (sendP (fs.take i) tick m.From).2 ∧ S.heap = h) (n := fs.length)
      ⟨0, by omega, by simp (disch:=first|assumption|omega) only[go_sem,↓reduceIte,reduceIte], by simp (disch:=first|assumption|omega) only[go_sem,↓reduceIte,Nat.reduceEqDiff,reduceIte], by simp (disch:=first|assumption|omega) only[go_sem,↓reduceIte,Nat.reduceEqDiff,reduceIte], by simp (disch:=first|assumption|omega) only[go_sem,↓reduceIte,reduceCtorEq,reduceIte], by simp (disch:=first|assumption|omega) only[go_sem,↓reduceIte,Nat.reduceEqDiff,reduceIte], by simp (disch:=first|assumption|omega) only[go_sem,↓reduceIte,Nat.reduceEqDiff,reduceIte], by simp (disch:=first|assumption|omega) only[msgC,go_sem,↓reduceIte,reduceIte], by simp (disch:=first|assumption|omega) only[go_sem,↓reduceIte,Nat.reduceEqDiff,reduceIte]; rfl, by simp (disch:=first|assumption|omega) only[go_sem,↓reduceIte,Nat.reduceEqDiff,reduceIte]; rfl, by simp (disch:=first|assumption|omega) only[go_sem]⟩ ?_
    rintro d S ⟨i, hi, e34, e33, e32, e0, e1, e5, b5, e8, e9, eh⟩
    by_cases hlt : (i : Int) < fs.length
    · have hi1 : i < fs.length := by omega
      have hat := at_fault hi1
      have hstp := sendP_take (tick := tick) (frm := m.From) hi1
      have hb := sendP_bd (fs.take i) tick m.From
      have hr34 : fs.length < 9223372036854775807 := by omega
      generalize fs[i] = f at *
      generalize hP : sendP (fs.take i) tick m.From = P at *
      obtain ⟨c, l⟩ := P
      simp only at hb
      unfold stepS at hstp
      by_cases c0 : f.Tick = tick
      · rw [if_pos c0] at hstp
        by_cases c1 : f.Kind = 0
        · by_cases c2 : f.N = m.From
          · simp (disch:=first|assumption|omega) only[e34,e33,e32,e0,e1,e5,b5,e9,eh,hlt,hat,faultA,c0,c1,c2,hlf,msgC,go_sem,↓reduceIte,Nat.reduceEqDiff,reduceCtorEq,Nat.reduceAdd,Nat.reduceLeDiff,Nat.reduceLT,reduceIte,Int.reduceLT,Int.reduceAdd]
            refine ⟨d - 1, by omega, i + 1, by omega, by simp, ?_, ?_⟩ <;> (rw [hstp]; refine congrArg (AVal.int .i64) ?_; dsimp only; (repeat split) <;> omega)
          · simp (disch:=first|assumption|omega) only[e34,e33,e32,e0,e1,e5,b5,e8,e9,eh,hlt,hat,faultA,c0,c1,c2,hlf,msgC,go_sem,↓reduceIte,Nat.reduceEqDiff,reduceCtorEq,Nat.reduceAdd,Nat.reduceLeDiff,Nat.reduceLT,reduceIte,Int.reduceLT,Int.reduceAdd,Int.reduceEq]
            refine ⟨d - 1, by omega, i + 1, by omega, by simp, ?_, ?_⟩ <;> (rw [hstp]; refine congrArg (AVal.int .i64) ?_; dsimp only; (repeat split) <;> omega)
        · by_cases c3 : f.Kind = 1
          · by_cases c2 : f.N = m.From
            · have hw : IntKind.i64.wrap (c * 2) = c * 2 := wrapI64 (by omega) (by omega)
              simp (disch:=first|assumption|omega) only[e34,e33,e32,e0,e1,e5,b5,e8,e9,eh,hlt,hat,faultA,c0,c3,c2,hw,hlf,msgC,go_sem,↓reduceIte,Nat.reduceEqDiff,reduceCtorEq,Nat.reduceAdd,Nat.reduceLeDiff,Nat.reduceLT,reduceIte,Int.reduceLT,Int.reduceAdd,Int.reduceEq]
              refine ⟨d - 1, by omega, i + 1, by omega, by simp, ?_, ?_⟩ <;> (rw [hstp]; refine congrArg (AVal.int .i64) ?_; dsimp only; (repeat split) <;> omega)
            · simp (disch:=first|assumption|omega) only[e34,e33,e32,e0,e1,e5,b5,e8,e9,eh,hlt,hat,faultA,c0,c3,c2,hlf,msgC,go_sem,↓reduceIte,Nat.reduceEqDiff,reduceCtorEq,Nat.reduceAdd,Nat.reduceLeDiff,Nat.reduceLT,reduceIte,Int.reduceLT,Int.reduceAdd,Int.reduceEq]
              refine ⟨d - 1, by omega, i + 1, by omega, by simp, ?_, ?_⟩ <;> (rw [hstp]; refine congrArg (AVal.int .i64) ?_; dsimp only; (repeat split) <;> omega)
          · by_cases c4 : f.Kind = 2
            · by_cases c5 : 0 < f.N
              · by_cases c6 : f.N ≤ 2000
                · simp (disch:=first|assumption|omega) only[e34,e33,e32,e0,e1,e5,b5,e8,e9,eh,hlt,hat,faultA,c0,c4,c5,c6,hlf,msgC,go_sem,↓reduceIte,Nat.reduceEqDiff,reduceCtorEq,Nat.reduceAdd,Nat.reduceLeDiff,Nat.reduceLT,reduceIte,Int.reduceLT,Int.reduceAdd,Int.reduceEq]
                  refine ⟨d - 1, by omega, i + 1, by omega, by simp, ?_, ?_⟩ <;> (rw [hstp]; refine congrArg (AVal.int .i64) ?_; dsimp only; (repeat split) <;> omega)
                · simp (disch:=first|assumption|omega) only[e34,e33,e32,e0,e1,e5,b5,e8,e9,eh,hlt,hat,faultA,c0,c4,c5,c6,hlf,msgC,go_sem,↓reduceIte,Nat.reduceEqDiff,reduceCtorEq,Nat.reduceAdd,Nat.reduceLeDiff,Nat.reduceLT,reduceIte,Int.reduceLT,Int.reduceAdd,Int.reduceEq]
                  refine ⟨d - 1, by omega, i + 1, by omega, by simp, ?_, ?_⟩ <;> (rw [hstp]; refine congrArg (AVal.int .i64) ?_; dsimp only; (repeat split) <;> omega)
              · simp (disch:=first|assumption|omega) only[e34,e33,e32,e0,e1,e5,b5,e8,e9,eh,hlt,hat,faultA,c0,c4,c5,hlf,msgC,go_sem,↓reduceIte,Nat.reduceEqDiff,reduceCtorEq,Nat.reduceAdd,Nat.reduceLeDiff,Nat.reduceLT,reduceIte,Int.reduceLT,Int.reduceAdd,Int.reduceEq]
                refine ⟨d - 1, by omega, i + 1, by omega, by simp, ?_, ?_⟩ <;> (rw [hstp]; refine congrArg (AVal.int .i64) ?_; dsimp only; (repeat split) <;> omega)
            · simp (disch:=first|assumption|omega) only[e34,e33,e32,e0,e1,e5,b5,e8,e9,eh,hlt,hat,faultA,c0,c1,c3,c4,hlf,msgC,go_sem,↓reduceIte,Nat.reduceEqDiff,reduceCtorEq,Nat.reduceAdd,Nat.reduceLeDiff,reduceIte,Int.reduceAdd]
              refine ⟨d - 1, by omega, i + 1, by omega, by simp, ?_, ?_⟩ <;> (rw [hstp]; refine congrArg (AVal.int .i64) ?_; dsimp only; (repeat split) <;> omega)
      · rw [if_neg c0] at hstp
        simp (disch:=first|assumption|omega) only[e34,e33,e32,e0,e1,e5,b5,e8,e9,eh,hlt,hat,faultA,c0,hlf,msgC,go_sem,↓reduceIte,Nat.reduceEqDiff,reduceCtorEq,Nat.reduceAdd,Nat.reduceLeDiff,reduceIte,Int.reduceAdd]
        exact ⟨d - 1, by omega, i + 1, by omega, by simp, by rw [hstp], by rw [hstp]⟩
    · obtain rfl : i = fs.length := by omega
      rw [List.take_length] at e8 e9
      obtain ⟨o, qk, rfl, hrk, hqk⟩ := hk.cases
      have hlm : (Ms.map flA).length = Ms.length := List.length_map _
      obtain ⟨⟨c, l⟩, hP⟩ : ∃ p, sendP fs tick m.From = p := ⟨_, rfl⟩
      rw [hP] at hbd e8 e9
      simp only at hbd e8 e9
      have hs1 : sendE fs tk Ms.length tick m = if 1000 < (Ms.length : Int) + c then 6 else 0 := by
        unfold sendE; rw [if_neg (by omega), if_neg a3, if_neg (by simp [hc]), hP]
      by_cases c1 : 1000 < (Ms.length : Int) + c
      · rw [if_pos c1] at hs1
        simp (disch:=first|assumption|omega) only[e34,e33,e0,e8,eh,hlt,e8,h1,hrk,hlm,c1,go_sem,↓reduceIte,Nat.reduceEqDiff,reduceCtorEq,Nat.reduceAdd,Nat.reduceLeDiff,Nat.reduceLT,reduceIte,Int.reduceLT,Int.reduceAdd]
        subst hQ
        simp (disch:=first|assumption|omega) only[R.net_Net_Send,hs1,go_sem,↓reduceIte,reduceIte,Int.reduceEq,Int.reduceNe]
        exact eh
      · rw [if_neg c1] at hs1
        simp (disch:=first|assumption|omega) only[e34,e33,e0,e1,e8,eh,hlt,e8,h1,hrk,hlm,c1,fillV,go_sem,↓reduceIte,Nat.reduceEqDiff,reduceCtorEq,Nat.reduceAdd,Nat.reduceLeDiff,Nat.reduceLT,reduceIte,Int.reduceLT,Int.reduceAdd]
        have hnl := lt_of_get h1
        have hset : ∀ X, (h.set nid X)[nid]? = some X := fun X => List.getElem?_set_self hnl
        refine aw_count (fun d S2 => ∃ (i : Nat) (kv : AVal) (Ns : List Fl), i + d = c.toNat ∧ S2.env 100 = .int .i64 i ∧ S2.env 99 = .int .i64 c ∧ S2.env 0 = .hp nid 0 ∧ S2.env 1 = .int .i64 tick ∧ S2.env 5 = .box 5 0 ∧ S2.boxes 5 = some (msgC q m) ∧ S2.env 9 = .int .i64 l ∧ S2.heap = h.set nid (.cells [.lst fo (faultsA fs), .int .i64 tick, kv]) ∧ KeptV kv (Ms ++ Ns) ∧ Ns.map (·.2) = List.replicate i (m, tick + 1 + l) ∧ (∀ x ∈ Ns, x.1 = false → x.2.1.Cells = [])) (n := c.toNat)
          ⟨0, .lst o (Ms.map flA), [], by omega, by simp (disch:=first|assumption|omega) only[go_sem,↓reduceIte,reduceIte], by simp (disch:=first|assumption|omega) only[go_sem,↓reduceIte,Nat.reduceEqDiff,reduceIte], by simp (disch:=first|assumption|omega) only[e0,go_sem,↓reduceIte,reduceCtorEq,reduceIte], by simp (disch:=first|assumption|omega) only[e1,go_sem,↓reduceIte,Nat.reduceEqDiff,reduceIte], by simp (disch:=first|assumption|omega) only[e5,go_sem,↓reduceIte,Nat.reduceEqDiff,reduceIte], by simp (disch:=first|assumption|omega) only[b5,go_sem], by simp (disch:=first|assumption|omega) only[e9,go_sem,↓reduceIte,Nat.reduceEqDiff,reduceIte], by simp (disch:=first|assumption|omega) only[go_sem], by rw [List.append_nil]; exact hk, rfl, fun x hx => by cases hx⟩ ?_
        clear e34 e33 e32 e0 e1 e5 b5 e8 e9 eh hlt hrk hqk hk
        rintro d2 S2 ⟨i, kv, Ns, hi2, g100, g99, g0, g1, g5, gb5, g9, gh, hk, hNs, hNb⟩
        by_cases hlt : (i : Int) < c
        · have hw : IntKind.i64.wrap (tick + 1 + l) = tick + 1 + l := wrapI64 (by omega) (by omega)
          have hNl : Ns.length = i := by simpa using congrArg List.length hNs
          have hlm2 : ((Ms ++ Ns).map flA).length = Ms.length + i := by rw [List.length_map, List.length_append, hNl]
          have hNs2 : ∀ b, (Ns ++ [((b, m, tick + 1 + l) : Fl)]).map (·.2) = List.replicate (i + 1) (m, tick + 1 + l) := fun b => by
            rw [List.map_append, hNs, List.replicate_succ']; rfl
          have hNb2 : ∀ b, (b = false → m.Cells = []) → ∀ x ∈ Ns ++ [((b, m, tick + 1 + l) : Fl)], x.1 = false → x.2.1.Cells = [] := fun b hb x hx => by
            rcases List.mem_append.1 hx with hx | hx
            · exact hNb x hx
            · simp at hx; subst hx; exact hb
          have hKn : ∀ b, Ms ++ (Ns ++ [((b, m, tick + 1 + l) : Fl)]) = (Ms ++ Ns) ++ [(b, m, tick + 1 + l)] := fun b => (List.append_assoc _ _ _).symm
          rcases hk with ⟨rfl, hk0⟩ | rfl
          · simp (disch:=first|assumption|omega) only[g100,g99,g0,g1,g5,gb5,g9,gh,hlt,hw,hset,msgC,go_sem,↓reduceIte,Nat.reduceEqDiff,reduceCtorEq,Nat.reduceAdd,Nat.reduceLeDiff,Nat.reduceLT,reduceIte,Int.reduceLT,Int.reduceAdd]
            refine callpG_ok (R := fun r => ∃ o', r = msgA o' m ∧ Rdn o' m.Cells) (fun hp' => ACalls.mono (Copy_ok q m hq (by unfold reachBytes at hl ⊢; omega) hp') fun r h' hh => ⟨hh.2, hh.1⟩) (by simp (disch:=first|assumption|omega) only[go_sem]) ?_
            rintro _ ⟨o', rfl, ho'⟩
            obtain ⟨b, rfl, hb⟩ := own_cases ho'
            have hbo := ownB_rdo b
            simp (disch:=first|assumption|omega) only[g100,g99,g0,g1,g5,gb5,g9,msgA,msgC,List.set_set,hset,fillV,go_sem,↓reduceIte,Nat.reduceEqDiff,reduceCtorEq,Nat.reduceAdd,Nat.reduceLeDiff,reduceIte,Int.reduceAdd,Int.reduceMul,Nat.reduceMul]
            exact ⟨d2 - 1, by omega, i + 1, _, _, by omega, by simp, rfl, .inr (by rw [hKn b, hk0]; rfl), hNs2 b, hNb2 b hb⟩
          · simp (disch:=first|assumption|omega) only[g100,g99,g0,g1,g5,gb5,g9,gh,hlt,hw,hset,msgC,go_sem,↓reduceIte,Nat.reduceEqDiff,reduceCtorEq,Nat.reduceAdd,Nat.reduceLeDiff,Nat.reduceLT,reduceIte,Int.reduceLT,Int.reduceAdd]
            refine callpG_ok (R := fun r => ∃ o', r = msgA o' m ∧ Rdn o' m.Cells) (fun hp' => ACalls.mono (Copy_ok q m hq (by unfold reachBytes at hl ⊢; omega) hp') fun r h' hh => ⟨hh.2, hh.1⟩) (by simp (disch:=first|assumption|omega) only[go_sem]) ?_
            rintro _ ⟨o', rfl, ho'⟩
            obtain ⟨b, rfl, hb⟩ := own_cases ho'
            have hbo := ownB_rdo b
            simp (disch:=first|assumption|omega) only[g100,g99,g0,g1,g5,gb5,g9,hlm2,msgA,msgC,List.set_set,hset,fillV,go_sem,↓reduceIte,Nat.reduceEqDiff,reduceCtorEq,Nat.reduceAdd,Nat.reduceLeDiff,reduceIte,Int.reduceAdd,Int.reduceMul,Nat.reduceMul]
            exact ⟨by omega, by omega, d2 - 1, by omega, i + 1, _, _, by omega, by simp, rfl, .inr (by rw [hKn b, List.map_append (l₁ := Ms ++ Ns)]; rfl), hNs2 b, hNb2 b hb⟩
        · simp only[g100,g99,hlt,go_sem,↓reduceIte,reduceIte]
          obtain rfl : i = c.toNat := by omega
          subst hQ
          simp only[R.net_Net_Send,hs1,go_sem,↓reduceIte,reduceIte,Int.reduceNe]
          exact ⟨by rw [gh]; exact Fr.set (by simp), Ns, by rw [hP]; exact hNs, hNb, fo, kv, by rw [gh]; exact hset _, ⟨qf, hqf, hrf⟩, hk, by have hNl := congrArg List.length hNs; rw [List.length_map, List.length_replicate] at hNl; rw [List.length_append]; omega⟩
  · have e : sendE fs tk Ms.length tick m = checkF m := by unfold sendE; rw [if_neg (by omega), if_neg a3, if_pos hc]
    simp only[hc,go_sem,↓reduceIte,Nat.reduceEqDiff,reduceIte]
    subst hQ
    simp only[R.net_Net_Send,e,go_sem,↓reduceIte,reduceIte]
    exact fun e0 => absurd e0 hc
end Go.Proofs.Ytpdajkbfemcdlaa
namespace Go.Proofs.Ytpdajkbfemcdlaa
open Go.Ge
theorem NetTakeR_ok (nid : Nat) (fs : List Fault) (tk tick to : Int) (Ms : List Fl) (h : List HObj) (hr : NetR h nid fs tk Ms) :
    ACalls Try.prog F.net_Net_Take [.hp nid 0, .int .i64 tick, .int .i64 to] h (fun v h' => ∃ (L' : List Fl), L'.Perm (Ms.filter (isHere to tick)) ∧ ((Ms.filter (isHere to tick)).length ≤ 20 → Flat cfDue (Ms.filter (isHere to tick)) → L' = Ms.filter (isHere to tick)) ∧ OutV v L' ∧ NetR h' nid fs tk (Ms.filter fun x => !isHere to tick x) ∧ Fr [nid] h h') := by
  obtain ⟨fo, kv, h1, h2, h3, h4⟩ := hr
  exact ACalls.mono (NetTake_ok nid _ kv tk tick to Ms h3 h4 rfl h h1) fun v h' ⟨L', kv', a1, a2, a3, a4, a5, a6⟩ => ⟨L', a1, a2, a3, ⟨fo, kv', a5, h2, a4, Nat.le_trans (List.length_filter_le _ _) h4⟩, a6⟩
def beatM (frm to n : Int) : Msg := ⟨3, frm, to, n % 1000, 0, []⟩
theorem beat_ok (frm to n : Int) (hn : inI64 n) (h : List HObj) : ACalls Try.prog F.gantkeep5_beat [.int .i64 frm, .int .i64 to, .int .i64 n] h (fun v h' => v = msgA .nil (beatM frm to n) ∧ h' = h) := by
  refine ACalls.of_aw Try.func86 K.gantkeep5_beat (by simp [Try.f86]) ?_
  generalize hQ : retQ R.gantkeep5_beat _ = Q
  simp (disch:=first|assumption|omega) only[C.gantkeep5_beat,go_sem,↓reduceIte,Nat.reduceEqDiff,reduceCtorEq,reduceIte]
  refine callG_ok (Below_ok n 1000 hn (by omega) (by omega) _) (by simp (disch:=first|assumption|omega) only[go_sem]) ?_
  rintro _ _ ⟨rfl, hhh⟩
  try rw [hhh]
  clear hhh
  simp (disch:=first|assumption|omega) only[go_sem,↓reduceIte,Nat.reduceEqDiff,Nat.reduceAdd,Nat.reduceLeDiff,reduceIte,Int.reduceAdd]
  subst hQ
  simp (disch:=first|assumption|omega) only[R.gantkeep5_beat,go_sem,↓reduceIte,Nat.reduceEqDiff,Nat.reduceAdd,reduceIte,Int.reduceAdd]
  rfl
theorem beat_check {frm to n : Int} (h1 : 0 ≤ frm ∧ frm ≤ 4) (h2 : 0 ≤ to ∧ to ≤ 4) (hne : frm ≠ to) (hn : 0 ≤ n) (hn2 : n ≤ 2147483647) : checkF ⟨3, frm, to, n, 0, []⟩ = 0 := by
  have : msgFault ⟨3, frm, to, n, 0, []⟩ = 0 := by unfold msgFault; simp; omega
  unfold checkF
  rw [this]; rfl
end Go.Proofs.Ytpdajkbfemcdlaa
namespace Go.Proofs.Ytpdajkbfemcdlaa
open Go.Ge
theorem EqualFuncS_ok (o1 o2 : Own) (a b : List Msg) (xs ys : List AVal) (h1 : Rdo o1) (h2 : Rdo o2) (ha : MsgsOk a xs) (hb : MsgsOk b ys) (hl : a.length < 4611686018427387904) (hl2 : b.length < 4611686018427387904) (h : List HObj) :
    ACalls Try.prog F.slices_EqualFunc_Msg [.lst o1 xs, .lst o2 ys, .func F.msg_Same []] h (fun r h' => r = .bool (decide (a = b)) ∧ h' = h) := by
  have la := ha.length
  have lb := hb.length
  refine ACalls.of_aw Try.func60 K.slices_EqualFunc_Msg (by simp [Try.f60]) ?_
  generalize hQ : retQ R.slices_EqualFunc_Msg _ = Q
  simp (disch:=first|assumption|omega) only[C.slices_EqualFunc_Msg,go_sem,↓reduceIte,Nat.reduceEqDiff,reduceCtorEq,reduceIte]
  refine condG_ifn (fun hne => ?_) fun heq => ?_
  · simp only[go_sem]
    subst hQ
    simp only[R.slices_EqualFunc_Msg,go_sem,↓reduceIte,reduceIte]
    have : a ≠ b := by rintro rfl; omega
    simp [this]
  · have he : a.length = b.length := by omega
    simp (disch:=first|assumption|omega) only[go_sem,↓reduceIte,reduceCtorEq,reduceIte]
    refine aw_count (fun d S => ∃ (i : Nat), i + d = a.length ∧ S.env 17 = .int .i64 i ∧ S.env 16 = .int .i64 xs.length ∧ S.env 15 = .lst o1 xs ∧ S.env 1 = .lst o2 ys ∧ S.env 2 = .func F.msg_Same [] ∧ a.take i = b.take i ∧ S.heap = h) (n := a.length) ⟨0, by simp [go_sem]⟩ ?_
    rintro d S ⟨i, hi, e17, e16, e15, e1, e2, ht, eh⟩
    simp only[e17,e16,go_sem,↓reduceIte,reduceIte]
    refine condG_if (fun hlt => ?_) fun hge => ?_
    · have hlt1 : i < a.length := by omega
      have hlt2 : i < b.length := by omega
      have hlt3 : i < xs.length := by omega
      have hlt4 : i < ys.length := by omega
      obtain ⟨p, hp, hpl, hx⟩ := ha.at i hlt1
      obtain ⟨q, hq, hql, hy⟩ := hb.at i hlt2
      have hp1 := hp.1
      have hq1 := hq.1
      unfold reachBytes at hpl hql
      simp (disch:=first|assumption|omega) only[e17,e15,e1,e2,hx,hy,hlt3,hlt4,msgA,msgC,go_sem,↓reduceIte,Nat.reduceEqDiff,Nat.reduceAdd,Nat.reduceLeDiff,reduceIte,Int.reduceAdd]
      refine callvG_ok (Same_ok p q a[i] b[i] hp1 hq1 (by omega) (by omega) _) (by simp (disch:=first|assumption|omega) only[go_sem]) ?_
      rintro _ _ ⟨rfl, hhh⟩
      rw [hhh]
      clear hhh
      by_cases hab : a[i] = b[i]
      · simp (disch:=first|assumption|omega) only[e17,e16,e15,e1,e2,eh,hab,go_sem,↓reduceIte,Nat.reduceEqDiff,reduceIte]
        refine ⟨d - 1, by omega, i + 1, by omega, by simp, ?_⟩
        rw [List.take_add_one, List.take_add_one, ht, List.getElem?_eq_getElem hlt1, List.getElem?_eq_getElem hlt2, hab]
      · simp only[hab,go_sem,↓reduceIte,reduceIte]
        subst hQ
        simp only[R.slices_EqualFunc_Msg,go_sem,↓reduceIte,reduceIte]
        have : a ≠ b := by rintro rfl; exact hab rfl
        simp [this, eh]
    · obtain rfl : i = a.length := by omega
      simp only[go_sem,↓reduceIte,reduceIte]
      subst hQ
      simp only[R.slices_EqualFunc_Msg,go_sem,↓reduceIte,reduceIte]
      rw [List.take_length, he, List.take_length] at ht
      simp [ht, eh]
def wantL (Ms : List Fl) (i : Int) : List Msg := (Ms.filter fun x => decide (x.2.1.To = i)).map (·.2.1)
def WantV (v : AVal) (l : List Msg) : Prop := v = .lst .nil [] ∧ l = [] ∨ v = .lst (.app 6) (l.map (msgA .nil))
def WantR (ws : List AVal) (Ms : List Fl) : Prop := ws.length = 5 ∧ ∀ i : Nat, i < 5 → ∃ v, ws[i]? = some v ∧ WantV v (wantL Ms i)
def PlI (T : Int) (Ms : List Fl) : Prop := ∀ x ∈ Ms, x.2.2 = T ∧ 0 ≤ x.2.1.To ∧ x.2.1.To ≤ 4 ∧ x.2.1.Cells = []
theorem PlI.here {T w : Int} {Ms : List Fl} (h : PlI T Ms) : Ms.filter (isHere w T) = Ms.filter fun x => decide (x.2.1.To = w) := by
  refine List.filter_congr fun x hx => ?_
  have := (h x hx).1
  simp [isHere, this]
theorem PlI.flat {T : Int} {Ms : List Fl} (h : PlI T Ms) {p : Fl → Bool} : Flat cfDue (Ms.filter p) := by
  intro x hx y hy
  have h1 := (h x (List.mem_filter.1 hx).1).1
  have h2 := (h y (List.mem_filter.1 hy).1).1
  unfold cfDue
  rw [h1, h2, Int.sub_self]; decide
theorem want_rest {T w i : Int} {Ms : List Fl} (h : PlI T Ms) : wantL (Ms.filter fun x => !isHere w T x) i = if i = w then [] else wantL Ms i := by
  unfold wantL
  rw [List.filter_filter]
  split
  · rename_i e
    rw [List.filter_eq_nil_iff.2, List.map_nil]
    intro x hx
    have := (h x hx).1
    simp [isHere, this, e]
  · rename_i e
    congr 1
    refine List.filter_congr fun x hx => ?_
    by_cases e2 : x.2.1.To = i
    · have : x.2.1.To ≠ w := fun e3 => e (e2.symm.trans e3)
      simp [isHere, this, e2, e]
    · simp [e2]
theorem WantR.rest {T : Int} {w : Nat} {ws : List AVal} {Ms : List Fl} (h : PlI T Ms) (hr : WantR ws Ms) (hw : w < 5) : WantR (ws.set w (.lst .nil [])) (Ms.filter fun x => !isHere w T x) := by
  refine ⟨by rw [List.length_set]; exact hr.1, fun i hi => ?_⟩
  rw [want_rest h]
  by_cases e : i = w
  · subst e
    exact ⟨_, List.getElem?_set_self (by rw [hr.1]; exact hi), .inl ⟨rfl, by rw [if_pos rfl]⟩⟩
  · obtain ⟨v, h1, h2⟩ := hr.2 i hi
    exact ⟨v, by rw [List.getElem?_set_ne (Ne.symm e)]; exact h1, by rw [if_neg (by omega)]; exact h2⟩
theorem want_snoc (Ms : List Fl) (x : Fl) (i : Int) : wantL (Ms ++ [x]) i = wantL Ms i ++ if x.2.1.To = i then [x.2.1] else [] := by
  unfold wantL
  rw [List.filter_append, List.map_append, List.filter_cons, List.filter_nil]
  by_cases e : x.2.1.To = i <;> simp [e]
theorem WantR.put {ws : List AVal} {Ms : List Fl} {x : Fl} {k : Nat} {v : AVal} (hr : WantR ws Ms) (hk : x.2.1.To = k) (hk5 : k < 5) (hv : WantV v (wantL Ms k ++ [x.2.1])) : WantR (ws.set k v) (Ms ++ [x]) := by
  refine ⟨by rw [List.length_set]; exact hr.1, fun i hi => ?_⟩
  rw [want_snoc]
  by_cases e : i = k
  · subst e
    exact ⟨_, List.getElem?_set_self (by rw [hr.1]; exact hi), by rw [if_pos hk]; exact hv⟩
  · obtain ⟨v, h1, h2⟩ := hr.2 i hi
    exact ⟨v, by rw [List.getElem?_set_ne (Ne.symm e)]; exact h1, by rw [if_neg (by omega), List.append_nil]; exact h2⟩
theorem fill_one {ws : List AVal} {i : Nat} (x : AVal) (h : i < ws.length) : fillV ws i [x] = ws.set i x := by
  unfold fillV
  rw [List.length_singleton, List.set_eq_take_append_cons_drop, if_pos h]; simp
theorem MsgsOk.ofNil : ∀ (l : List Msg), (∀ m ∈ l, m.Cells = []) → MsgsOk l (l.map (msgA .nil))
  | [], _ => rfl
  | m :: l, h => ⟨_, _, rfl, ⟨.nil, ⟨.inr rfl, fun _ => h m (by simp)⟩, by rw [h m (by simp)]; simp, rfl⟩, MsgsOk.ofNil l fun x hx => h x (by simp [hx])⟩
theorem MsgsOk.ofOut : ∀ (L : List Fl), (∀ x ∈ L, x.2.1.Cells = []) → MsgsOk (L.map (·.2.1)) (L.map outA)
  | [], _ => rfl
  | x :: l, h => ⟨_, _, rfl, ⟨ownB x.1, ⟨ownB_rdo _, fun _ => h x (by simp)⟩, by rw [h x (by simp)]; simp, rfl⟩, MsgsOk.ofOut l fun x hx => h x (by simp [hx])⟩
end Go.Proofs.Ytpdajkbfemcdlaa
namespace Go.Proofs.Ytpdajkbfemcdlaa
open Go.Ge
theorem at_ints2 {l : List Int} {i : Nat} (h : i < l.length) : at_ (ints .i64 l) (i : Int) = .int .i64 l[i] := by
  simp [at_, ints, List.getD_eq_getElem?_getD, h]
theorem sendE_nil {tk : Int} {n : Nat} {t : Int} {m : Msg} (h0 : 0 ≤ t) (h1 : t ≤ 2000) (h2 : tk ≤ t) (hc : checkF m = 0) (hn : n ≤ 999) : sendE [] tk n t m = 0 := by
  unfold sendE
  rw [if_neg (by omega), if_neg (by omega), if_neg (by simp [hc]), if_neg (by simp [sendP]; omega)]
theorem tdiv_in {x : Int} (h : inI64 x) (c : Nat) (hc : 2 ≤ c) : inI64 (x.tdiv c) := by
  have h1 : (x.tdiv c).natAbs = x.natAbs / c := by rw [Int.natAbs_tdiv]; rfl
  have h2 : x.natAbs / c ≤ x.natAbs / 2 := Nat.div_le_div_left hc (by omega)
  unfold inI64 at h ⊢
  omega
def PlS (q : Own) (l : List Int) (t : Nat) (T : Int) (n : Nat) (lo : Int) (S : AState) : Prop :=
  ∃ (tk : Int) (Ms : List Fl) (ws : List AVal), S.env 0 = .lst q (ints .i64 l) ∧ S.env 3 = .hp 0 0 ∧ S.env 4 = .box 4 0 ∧ S.boxes 4 = some ws ∧ S.env 26 = .int .i64 t ∧ NetR S.heap 0 [] tk Ms ∧ 0 ≤ tk ∧ tk ≤ t ∧ PlI T Ms ∧ Ms.length ≤ n ∧ (∀ x ∈ Ms, lo ≤ x.2.1.To) ∧ WantR ws Ms
theorem NetPlain_law (q : Own) (l : List Int) (hq : Rdo q) (hl : ∀ c ∈ l, inI64 c) (hll : l.length ≤ 1099511627776000) :
    ACalls Try.prog 19 [.lst q (ints .i64 l)] [] (fun r _ => r = .bool true) := by
  have hlm : (ints .i64 l).length = l.length := List.length_map _
  have dm : ∀ s i, drV s (.map i) = .map i := fun _ _ => rfl
  have dh : ∀ s i j, drV s (.hp i j) = .hp i j := fun _ _ _ => rfl
  have di : ∀ s k n, drV s (.int k n) = .int k n := fun _ _ _ => rfl
  have dl : ∀ s o l, drV s (.lst o l) = .lst o l := fun _ _ _ => rfl
  refine ACalls.of_aw Try.func19 K.gantkeep5_NetPlain (by simp [Try.f19]) ?_
  generalize hQ : retQ R.gantkeep5_NetPlain _ = Q
  simp only[C.gantkeep5_NetPlain,go_sem]
  refine callG_ok (NetNew_ok .nil [] ⟨.inr rfl, fun _ => rfl⟩ (by simp) _) (by simp only[go_sem]) ?_
  rintro _ h1 ⟨rfl, ⟨X, hX⟩, hnet⟩
  replace hnet : NetR h1 0 [] 0 [] := hnet
  replace hX : h1 = [X] := hX
  simp only[go_sem,↓reduceIte,Nat.reduceEqDiff,reduceIte]
  refine callG_ok (beat_ok 0 1 5 (by unfold inI64; omega) _) (by simp only[go_sem]) ?_
  rintro _ _ ⟨rfl, hhh⟩
  rw [hhh]
  clear hhh
  simp only[beatM,msgA,msgC,go_sem,↓reduceIte,Nat.reduceEqDiff,reduceIte]
  have es1 : sendE [] 0 ([] : List Fl).length 0 ⟨3, 0, 1, 5 % 1000, 0, []⟩ = 0 := sendE_nil (by omega) (by omega) (by omega) (beat_check (by omega) (by omega) (by omega) (by omega) (by omega)) (by simp)
  refine callG_ok (NetSend_ok 0 [] 0 0 [] .nil ⟨3, 0, 1, 5 % 1000, 0, []⟩ ⟨.inr rfl, fun _ => rfl⟩ (by simp) (by simp) _ (by simp only[go_sem]; exact hnet)) (by simp only[go_sem]) ?_
  rintro _ h2 ⟨rfl, _, hS⟩
  obtain ⟨hf, Ns, hNs, hNb, hn2⟩ := hS es1
  rw [es1]
  simp only[go_sem,↓reduceIte,Nat.reduceEqDiff,reduceIte]
  refine callG_ok (Kept_ok 0 [] 0 _ _ hn2) (by simp only[go_sem]) ?_
  rintro _ _ ⟨rfl, hhh⟩
  rw [hhh]
  clear hhh
  have hNl : Ns.length = 1 := by have := congrArg List.length hNs; rw [List.length_map, List.length_replicate] at this; exact this
  have c11 : ((1 : Nat) : Int) = 1 := rfl
  simp only[hNl,List.nil_append,c11,go_sem,↓reduceIte,Nat.reduceEqDiff,reduceIte]
  refine callG_ok (NetTakeR_ok 0 [] 0 9 1 Ns _ (by simp only[go_sem]; exact hn2)) (by simp only[go_sem]) ?_
  rintro v h3 ⟨L, hp, _, hov, hn3, hf3⟩
  have hNe : (Ns.filter fun x => !isHere 1 9 x) = [] := by
    rw [List.filter_eq_nil_iff]
    intro x hx
    have : x.2 ∈ Ns.map (·.2) := List.mem_map.2 ⟨x, hx, rfl⟩
    rw [hNs] at this
    have e := List.eq_of_mem_replicate this
    simp [isHere, e, sendP]
  rw [hNe] at hn3
  obtain ⟨ov, rfl⟩ : ∃ ov, v = .lst ov (L.map outA) := by
    rcases hov with ⟨rfl, rfl⟩ | rfl
    · exact ⟨.nil, rfl⟩
    · exact ⟨.app 6, rfl⟩
  simp only[go_sem]
  refine aw_count (fun d S => ∃ t : Nat, t + d = 60 ∧ PlS q l t t 2 0 S) (n := 60) ⟨0, by omega, 0, [], [.lst .nil [], .lst .nil [], .lst .nil [], .lst .nil [], .lst .nil []], by simp only[go_sem,↓reduceIte,reduceCtorEq,reduceIte], by simp only[go_sem,↓reduceIte,Nat.reduceEqDiff,reduceIte], by simp only[go_sem,↓reduceIte,Nat.reduceEqDiff,reduceIte], by simp only[go_sem,↓reduceIte,reduceIte], by simp only[go_sem,↓reduceIte,reduceIte], by simp only[go_sem]; exact hn3, by omega, by omega, (fun x hx => by cases hx), by simp, (fun x hx => by cases hx), rfl, fun i hi => ?_⟩ ?_
  · refine ⟨.lst .nil [], ?_, .inl ⟨rfl, rfl⟩⟩
    match i, hi with
    | 0, _ | 1, _ | 2, _ | 3, _ | 4, _ => rfl
  clear hnet hn2 hn3 hf3 hf hp hov hNe hNs hNb hNl
  rintro d S ⟨t, ht, tk, Ms, ws, e0, e3, e4, b4, e26, hn, htk0, htk1, hP, hml, hlo, hW⟩
  by_cases hlt : (t : Int) < 60
  · simp only[e26,hlt,go_sem,↓reduceIte,Nat.reduceEqDiff,reduceIte]
    refine aw_count (fun d S => ∃ w : Nat, w + d = 5 ∧ S.env 29 = .int .i64 w ∧ S.env 5 = .int .i64 t ∧ PlS q l t t 2 w S) (n := 5) ⟨0, by omega, by simp only[go_sem,↓reduceIte,reduceIte], by simp only[go_sem,↓reduceIte,Nat.reduceEqDiff,reduceIte], tk, Ms, ws, by simp only[e0,go_sem,↓reduceIte,reduceCtorEq,reduceIte], by simp only[e3,go_sem,↓reduceIte,Nat.reduceEqDiff,reduceIte], by simp only[e4,go_sem,↓reduceIte,Nat.reduceEqDiff,reduceIte], by simp only[b4,go_sem], by simp only[e26,go_sem,↓reduceIte,Nat.reduceEqDiff,reduceIte], by simp only[go_sem]; exact hn, htk0, htk1, hP, hml, hlo, hW⟩ ?_
    clear e0 e3 e4 b4 e26 hn htk0 htk1 hP hml hlo hW
    clear tk Ms ws
    rintro d3 S3 ⟨w, hw, g29, g5, tk, Ms, ws, e0, e3, e4, b4, e26, hn, htk0, htk1, hP, hml, hlo, hW⟩
    by_cases hwl : (w : Int) < 5
    · have hw5 : w < 5 := by omega
      obtain ⟨v, hv1, hv2⟩ := hW.2 w hw5
      have hfil := fill_one (ws := ws) (i := w) (.lst .nil []) (by rw [hW.1]; exact hw5)
      have hwl5 : w < ws.length := by rw [hW.1]; exact hw5
      have hgd : ws.getD w .junk = v := by rw [List.getD_eq_getElem?_getD, hv1]; rfl
      obtain ⟨vo, q2, rfl, hrc, hq2⟩ : ∃ vo q2, v = .lst vo ((wantL Ms w).map (msgA .nil)) ∧ Ge.rdc v = .lst q2 ((wantL Ms w).map (msgA .nil)) ∧ Rdo q2 := by
        rcases hv2 with ⟨rfl, e⟩ | rfl
        · rw [e]; exact ⟨.nil, .nil, rfl, rfl, .inr rfl⟩
        · exact ⟨.app 6, .sh, rfl, rfl, .inl rfl⟩
      clear hv2
      simp only[g29,g5,e3,e4,b4,hwl,Nat.mul_one,hw5,hwl5,hgd,hrc,go_sem,↓reduceIte,Nat.reduceEqDiff,Nat.reduceLeDiff,reduceIte]
      refine callG_ok (NetTakeR_ok 0 [] tk t w Ms _ (by simp only[go_sem]; exact hn)) (by simp only[go_sem]) ?_
      rintro v h2 ⟨L, hp, hsame, hov, hn2, hf⟩
      have hLe : L = Ms.filter (isHere w t) := hsame (Nat.le_trans (List.length_filter_le _ _) (by omega)) hP.flat
      have hLw : L.map (·.2.1) = wantL Ms w := by rw [hLe, hP.here]; rfl
      have hcl : ∀ x ∈ L, x.2.1.Cells = [] := fun x hx => by rw [hLe] at hx; exact (hP x (List.mem_filter.1 hx).1).2.2.2
      have hcw : ∀ m ∈ wantL Ms w, m.Cells = [] := fun m hm => by
        rw [← hLw] at hm
        obtain ⟨x, hx, rfl⟩ := List.mem_map.1 hm
        exact hcl x hx
      have hLM : L.length ≤ Ms.length := by rw [hp.length_eq]; exact List.length_filter_le _ _
      have hWl : (wantL Ms w).length = L.length := by rw [← hLw, List.length_map]
      obtain ⟨ov, rfl, hov2⟩ : ∃ ov, v = .lst ov (L.map outA) ∧ (ov = .nil ∨ ov = .app 6) := by
        rcases hov with ⟨rfl, rfl⟩ | rfl
        · exact ⟨.nil, rfl, .inl rfl⟩
        · exact ⟨.app 6, rfl, .inr rfl⟩
      have hrv : ∃ q3, rdv (.lst ov (L.map outA)) = .lst q3 (L.map outA) ∧ Rdo q3 := by
        rcases hov2 with rfl | rfl
        · exact ⟨.nil, rfl, .inr rfl⟩
        · exact ⟨.sh, rfl, .inl rfl⟩
      obtain ⟨q3, hrv, hq3⟩ := hrv
      have hrv2 : rdv (.lst q2 ((wantL Ms w).map (msgA .nil))) = .lst q2 ((wantL Ms w).map (msgA .nil)) := by rcases hq2 with rfl | rfl <;> rfl
      simp only[hrv,hrv2,go_sem,↓reduceIte,Nat.reduceEqDiff,reduceIte]
      refine callG_ok (EqualFuncS_ok q3 q2 _ _ _ _ hq3 hq2 (MsgsOk.ofOut L hcl) (MsgsOk.ofNil _ hcw) (by rw [List.length_map]; omega) (by omega) _) (by simp only[go_sem]) ?_
      rintro _ _ ⟨rfl, hhh⟩
      rw [hhh, decide_eq_true hLw]
      clear hhh
      simp (disch:=first|assumption|omega) only[g29,g5,e4,b4,Nat.mul_one,hw5,hfil,go_sem,↓reduceIte,Nat.reduceEqDiff,reduceIte]
      refine ⟨by omega, d3 - 1, by omega, w + 1, by omega, by simp, tk, Ms.filter (fun x => !isHere w t x), ws.set w (.lst .nil []), by simp (disch:=first|assumption|omega) only[e0,go_sem,↓reduceIte,reduceCtorEq,reduceIte], by simp (disch:=first|assumption|omega) only[e3,go_sem,↓reduceIte,Nat.reduceEqDiff,reduceIte], by simp (disch:=first|assumption|omega) only[e4,go_sem,↓reduceIte,Nat.reduceEqDiff,reduceIte], by simp (disch:=first|assumption|omega) only[go_sem,↓reduceIte,reduceIte], by simp (disch:=first|assumption|omega) only[e26,go_sem,↓reduceIte,Nat.reduceEqDiff,reduceIte], by simp (disch:=first|assumption|omega) only[go_sem]; exact hn2, htk0, htk1, fun x hx => hP x (List.mem_filter.1 hx).1, Nat.le_trans (List.length_filter_le _ _) hml, fun x hx => ?_, hW.rest hP hw5⟩
      obtain ⟨h1, h2⟩ := List.mem_filter.1 hx
      have h3 := hlo x h1
      have h4 := (hP x h1).1
      simp [isHere, h4] at h2
      omega
    · obtain rfl : Ms = [] := by
        match Ms, hlo, hP with
        | [], _, _ => rfl
        | x :: _, h1, h2 => have h3 := h1 x (by simp); have h4 := (h2 x (by simp)).2.2.1; omega
      simp only[g29,hwl,go_sem,↓reduceIte,reduceIte]
      refine aw_count (fun d S => ∃ k : Nat, k + d = 2 ∧ S.env 44 = .int .i64 k ∧ S.env 5 = .int .i64 t ∧ PlS q l t (t + 1) k 0 S) (n := 2) ⟨0, by omega, by simp (disch:=first|assumption|omega) only[go_sem,↓reduceIte,reduceIte], by simp (disch:=first|assumption|omega) only[g5,go_sem,↓reduceIte,Nat.reduceEqDiff,reduceIte], tk, [], ws, by simp (disch:=first|assumption|omega) only[e0,go_sem,↓reduceIte,reduceCtorEq,reduceIte], by simp (disch:=first|assumption|omega) only[e3,go_sem,↓reduceIte,Nat.reduceEqDiff,reduceIte], by simp (disch:=first|assumption|omega) only[e4,go_sem,↓reduceIte,Nat.reduceEqDiff,reduceIte], by simp (disch:=first|assumption|omega) only[b4,go_sem], by simp (disch:=first|assumption|omega) only[e26,go_sem,↓reduceIte,Nat.reduceEqDiff,reduceIte], by simp (disch:=first|assumption|omega) only[go_sem]; exact hn, htk0, htk1, (fun x hx => by cases hx), by simp, (fun x hx => by cases hx), hW⟩ ?_
      clear g29 g5 e0 e3 e4 b4 e26 hn htk0 htk1 hP hml hlo hW hwl hw
      clear tk ws w
      rintro d4 S4 ⟨k, hk, g44, g5, tk, Ms, ws, e0, e3, e4, b4, e26, hn, htk0, htk1, hP, hml, hlo, hW⟩
      by_cases hk2 : (k : Int) < 2
      · have hm1 : IntKind.i64.wrap (2 * (t : Int)) = 2 * t := wrapI64 (by omega) (by omega)
        have hm2 : IntKind.i64.wrap (2 * (t : Int) + k) = ((2 * t + k : Nat) : Int) := by rw [wrapI64 (by omega) (by omega)]; omega
        by_cases hlx : l.length ≤ 2 * t + k
        · have hlx' : (l.length : Int) ≤ ((2 * t + k : Nat) : Int) := by omega
          simp (disch:=first|assumption|omega) only[g44,g5,e0,hk2,hlm,hm1,hm2,hlx',go_sem,↓reduceIte,Nat.reduceEqDiff,reduceCtorEq,reduceIte]
          exact ⟨d4 - 1, by omega, k + 1, by omega, by simp, tk, Ms, ws, by simp (disch:=first|assumption|omega) only[e0,go_sem,↓reduceIte,reduceCtorEq,reduceIte], by simp (disch:=first|assumption|omega) only[e3,go_sem,↓reduceIte,Nat.reduceEqDiff,reduceIte], by simp (disch:=first|assumption|omega) only[e4,go_sem,↓reduceIte,Nat.reduceEqDiff,reduceIte], by simp (disch:=first|assumption|omega) only[b4,go_sem], by simp (disch:=first|assumption|omega) only[e26,go_sem,↓reduceIte,Nat.reduceEqDiff,reduceIte], by simp (disch:=first|assumption|omega) only[go_sem]; exact hn, htk0, htk1, hP, by omega, hlo, hW⟩
        · have hi : 2 * t + k < l.length := by omega
          have hlx' : ¬(l.length : Int) ≤ ((2 * t + k : Nat) : Int) := by omega
          have hat := at_ints2 hi
          have hx := hl _ (List.getElem_mem hi)
          generalize l[2 * t + k] = x at *
          simp (disch:=first|assumption|omega) only[g44,g5,e0,hk2,hlm,hm1,hm2,hlx',hat,hi,go_sem,↓reduceIte,Nat.reduceEqDiff,reduceCtorEq,Nat.reduceLeDiff,Nat.reduceLT,reduceIte,Int.reduceLT]
          have hx5 : 0 ≤ x % 5 ∧ x % 5 ≤ 4 := by omega
          have hi5 : inI64 (x.tdiv 5) := tdiv_in hx 5 (by omega)
          have hi25 : inI64 (x.tdiv 25) := tdiv_in hx 25 (by omega)
          have hq5 : IntKind.i64.wrap (x.tdiv 5) = x.tdiv 5 := wrapI64 (by unfold inI64 at hi5; omega) (by unfold inI64 at hi5; omega)
          have hq25 : IntKind.i64.wrap (x.tdiv 25) = x.tdiv 25 := wrapI64 (by unfold inI64 at hi25; omega) (by unfold inI64 at hi25; omega)
          obtain ⟨x25, hx25⟩ : ∃ y, x.tdiv 25 = y := ⟨_, rfl⟩
          obtain ⟨x5, hx55⟩ : ∃ y, x.tdiv 5 = y := ⟨_, rfl⟩
          rw [hx25] at hi25 hq25
          rw [hx55] at hi5 hq5
          have ha1 : IntKind.i64.wrap (x % 5 + 1) = x % 5 + 1 := wrapI64 (by omega) (by omega)
          have ha2 : IntKind.i64.wrap (x % 5 + 1 + x5 % 4) = x % 5 + 1 + x5 % 4 := wrapI64 (by omega) (by omega)
          refine callG_ok (Below_ok x 5 hx (by omega) (by omega) _) (by simp (disch:=first|assumption|omega) only[go_sem]) ?_
          rintro _ _ ⟨rfl, hhh⟩
          rw [hhh]
          clear hhh
          simp (disch:=first|assumption|omega) only[go_sem,↓reduceIte,Nat.reduceEqDiff,reduceIte]
          refine callG_ok (Below_ok x 5 hx (by omega) (by omega) _) (by simp (disch:=first|assumption|omega) only[go_sem]) ?_
          rintro _ _ ⟨rfl, hhh⟩
          rw [hhh]
          clear hhh
          simp (disch:=first|assumption|omega) only[ha1,hx55,hq5,go_sem,↓reduceIte,Nat.reduceEqDiff,reduceIte,Int.reduceNe]
          refine callG_ok (Below_ok x5 4 hi5 (by omega) (by omega) _) (by simp (disch:=first|assumption|omega) only[go_sem]) ?_
          rintro _ _ ⟨rfl, hhh⟩
          rw [hhh]
          clear hhh
          simp (disch:=first|assumption|omega) only[ha2,go_sem,↓reduceIte,Nat.reduceEqDiff,reduceIte]
          refine callG_ok (Below_ok (x % 5 + 1 + x5 % 4) 5 (by unfold inI64; omega) (by omega) (by omega) _) (by simp (disch:=first|assumption|omega) only[go_sem]) ?_
          rintro _ _ ⟨rfl, hhh⟩
          rw [hhh]
          clear hhh
          obtain ⟨to, hto, hto5, hne⟩ : ∃ to : Nat, (x % 5 + 1 + x5 % 4) % 5 = (to : Int) ∧ to < 5 ∧ x % 5 ≠ to := ⟨((x % 5 + 1 + x5 % 4) % 5).toNat, by omega, by omega, by omega⟩
          rw [hto]
          simp (disch:=first|assumption|omega) only[hx25,hq25,go_sem,↓reduceIte,Nat.reduceEqDiff,reduceIte,Int.reduceNe]
          refine callG_ok (beat_ok (x % 5) to x25 hi25 _) (by simp (disch:=first|assumption|omega) only[go_sem]) ?_
          rintro _ _ ⟨rfl, hhh⟩
          rw [hhh]
          clear hhh
          have hck : checkF ⟨3, x % 5, to, x25 % 1000, 0, []⟩ = 0 := beat_check hx5 (by omega) hne (by omega) (by omega)
          have es2 : sendE [] tk Ms.length t ⟨3, x % 5, to, x25 % 1000, 0, []⟩ = 0 := sendE_nil (by omega) (by omega) htk1 hck (by omega)
          simp (disch:=first|assumption|omega) only[beatM,msgA,msgC,fillV,g5,e3,dh,di,go_sem,↓reduceIte,Nat.reduceEqDiff,Nat.reduceAdd,Nat.reduceLeDiff,reduceIte,Int.reduceAdd]
          refine callG_ok (NetSend_ok 0 [] tk t Ms .nil ⟨3, x % 5, to, x25 % 1000, 0, []⟩ ⟨.inr rfl, fun _ => rfl⟩ (by simp) (by simp) _ (by simp (disch:=first|assumption|omega) only[go_sem]; exact hn)) (by simp (disch:=first|assumption|omega) only[go_sem]) ?_
          rintro _ h3 ⟨rfl, _, hS⟩
          obtain ⟨hf, Ns, hNs, hNb, hn2⟩ := hS es2
          rw [es2]
          obtain ⟨y, rfl⟩ : ∃ y, Ns = [y] := by
            have := congrArg List.length hNs
            rw [List.length_map, List.length_replicate] at this
            exact List.length_eq_one_iff.1 (by rw [this]; rfl)
          have hy : y.2 = (⟨3, x % 5, to, x25 % 1000, 0, []⟩, (t : Int) + 1) := by
            have := congrArg List.head? hNs
            simpa [sendP] using this
          obtain ⟨v, hv1, hv2⟩ := hW.2 to hto5
          have hwl5 : to < ws.length := by rw [hW.1]; exact hto5
          have hgd : ws.getD to .junk = v := by rw [List.getD_eq_getElem?_getD, hv1]; rfl
          have hPn : PlI (t + 1) (Ms ++ [y]) := by
            intro z hz
            rcases List.mem_append.1 hz with hz | hz
            · exact hP z hz
            · simp at hz; subst hz; rw [hy]; exact ⟨rfl, by simp only; omega, by simp only; omega, rfl⟩
          have hwn : (wantL Ms to).length ≤ 2 := by unfold wantL; rw [List.length_map]; exact Nat.le_trans (List.length_filter_le _ _) (by omega)
          have hfin : ∀ (X Y : AVal), fillV (ws.set to X) to [Y] = ws.set to Y := fun X Y => by rw [fill_one Y (by rw [List.length_set]; exact hwl5), List.set_set]
          have hlo2 : ∀ z ∈ Ms ++ [y], 0 ≤ z.2.1.To := fun z hz => (hPn z hz).2.1
          have hyT : y.2.1.To = (to : Nat) := by rw [hy]
          have hyM : y.2.1 = ⟨3, x % 5, to, x25 % 1000, 0, []⟩ := by rw [hy]
          have hln : (Ms ++ [y]).length ≤ k + 1 := by rw [List.length_append, List.length_singleton]; omega
          rcases hv2 with ⟨rfl, hw0⟩ | rfl
          · simp (disch:=first|assumption|omega) only[g44,g5,e4,b4,Nat.mul_one,hto5,hwl5,hgd,di,hfin,go_sem,↓reduceIte,Nat.reduceEqDiff,Nat.reduceAdd,Nat.reduceLeDiff,reduceIte,Int.reduceAdd,Int.reduceMul,Nat.reduceMul]
            refine ⟨by rw [List.length_set]; omega, d4 - 1, by omega, k + 1, by omega, by simp, t, Ms ++ [y], _, by simp (disch:=first|assumption|omega) only[e0,dl,go_sem,↓reduceIte,reduceCtorEq,reduceIte], by simp (disch:=first|assumption|omega) only[e3,dh,go_sem,↓reduceIte,Nat.reduceEqDiff,reduceIte], by simp (disch:=first|assumption|omega) only[e4,go_sem,↓reduceIte,Nat.reduceEqDiff,reduceIte], by simp (disch:=first|assumption|omega) only[go_sem,↓reduceIte,reduceIte]; rfl, by simp (disch:=first|assumption|omega) only[e26,di,go_sem,↓reduceIte,Nat.reduceEqDiff,reduceIte], by simp (disch:=first|assumption|omega) only[go_sem]; exact hn2, by omega, by omega, hPn, hln, hlo2, hW.put hyT hto5 (.inr (by rw [hw0, hyM]; rfl))⟩
          · have hwm : ((wantL Ms to).map (msgA .nil)).length = (wantL Ms to).length := List.length_map _
            simp (disch:=first|assumption|omega) only[g44,g5,e4,b4,Nat.mul_one,hto5,hwl5,hgd,di,hfin,hwm,go_sem,↓reduceIte,Nat.reduceEqDiff,Nat.reduceAdd,Nat.reduceLeDiff,reduceIte,Int.reduceAdd,Int.reduceMul,Nat.reduceMul]
            refine ⟨by omega, by omega, by rw [List.length_set]; omega, d4 - 1, by omega, k + 1, by omega, by simp, t, Ms ++ [y], _, by simp (disch:=first|assumption|omega) only[e0,dl,go_sem,↓reduceIte,reduceCtorEq,reduceIte], by simp (disch:=first|assumption|omega) only[e3,dh,go_sem,↓reduceIte,Nat.reduceEqDiff,reduceIte], by simp (disch:=first|assumption|omega) only[e4,go_sem,↓reduceIte,Nat.reduceEqDiff,reduceIte], by simp (disch:=first|assumption|omega) only[go_sem,↓reduceIte,reduceIte]; rfl, by simp (disch:=first|assumption|omega) only[e26,di,go_sem,↓reduceIte,Nat.reduceEqDiff,reduceIte], by simp (disch:=first|assumption|omega) only[go_sem]; exact hn2, by omega, by omega, hPn, hln, hlo2, hW.put hyT hto5 (.inr (by rw [hyM, List.map_append]; rfl))⟩
      · simp only[g44,e26,hk2,go_sem,↓reduceIte,Nat.reduceEqDiff,reduceIte]
        exact ⟨d - 1, by omega, t + 1, by omega, tk, Ms, ws, by simp only[e0,go_sem,↓reduceIte,reduceCtorEq,reduceIte], by simp only[e3,go_sem,↓reduceIte,Nat.reduceEqDiff,reduceIte], by simp only[e4,go_sem,↓reduceIte,Nat.reduceEqDiff,reduceIte], by simp only[b4,go_sem], by simp (disch:=first|assumption|omega) only[go_sem,↓reduceIte,reduceIte]; simp, by simp (disch:=first|assumption|omega) only[go_sem]; exact hn, htk0, by omega, by simpa using hP, by omega, hlo, hW⟩
  · simp only[e26,hlt,go_sem,↓reduceIte,reduceIte]
    subst hQ
    simp only[R.gantkeep5_NetPlain,go_sem,↓reduceIte,reduceIte]
end Go.Proofs.Ytpdajkbfemcdlaa
