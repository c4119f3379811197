import Derived.Test.YtpdajkbfemcdlaaGeSet
import Derived.Test.YtpdajkbfemcdlaaZA1
set_option linter.unusedSimpArgs false
set_option linter.unusedVariables false
set_option maxRecDepth 10000
namespace Go.Proofs.Ytpdajkbfemcdlaa
open Go.Ge
def ownB : Bool → Own
  | true => .sh
  | false => .nil
theorem ownB_rdo (b : Bool) : Rdo (ownB b) := by cases b; exact .inr rfl; exact .inl rfl
theorem own_cases {q : Own} {l : List Cell} (h : Rdn q l) : ∃ b, q = ownB b ∧ (b = false → l = []) := by
  rcases h.1 with rfl | rfl
  · exact ⟨true, rfl, fun e => by cases e⟩
  · exact ⟨false, rfl, fun _ => h.2 rfl⟩
def mgC (x : Bool × Msg) : List AVal := msgC (ownB x.1) x.2
def itC (x : Bool × Msg × Int) : List AVal := msgC (ownB x.1) x.2.1 ++ [.int .i64 x.2.2]
theorem itC_len (x : Bool × Msg × Int) : (itC x).length = 7 := rfl
theorem mgC_st (x : Bool × Msg) : ∀ c ∈ mgC x, storC c = true ∧ Ge.rdc c = c := by
  intro c hc
  simp only[mgC,msgC,List.mem_cons,List.not_mem_nil,or_false] at hc
  rcases hc with rfl | rfl | rfl | rfl | rfl | rfl <;> first | exact ⟨rfl, rfl⟩ | (cases x.1 <;> exact ⟨rfl, rfl⟩)
theorem itC_st (x : Bool × Msg × Int) : ∀ c ∈ itC x, storC c = true ∧ Ge.rdc c = c := by
  intro c hc
  rcases List.mem_append.1 hc with hc | hc
  · exact mgC_st (x.1, x.2.1) c hc
  · simp at hc; subst hc; exact ⟨rfl, rfl⟩
theorem MsgsOk.snoc {m : Msg} {x : AVal} (hx : MsgOk m x) : ∀ {l : List Msg} {xs : List AVal}, MsgsOk l xs → MsgsOk (l ++ [m]) (xs ++ [x])
  | [], xs, h => by simp only[MsgsOk] at h; subst h; exact ⟨x, [], rfl, hx, rfl⟩
  | a :: l, xs, h => by
    obtain ⟨y, ys, rfl, h1, h2⟩ := h
    exact ⟨y, ys ++ [x], rfl, h1, h2.snoc hx⟩
def GotR (g : AVal) (l : List Msg) : Prop := g = .lst .nil [] ∧ l = [] ∨ ∃ xs, g = .lst (.app 6) xs ∧ MsgsOk l xs
def EndR (h : List HObj) (e : Nat) (own : List Nat) (self other : Int) (s : Lk) : Prop :=
  e ∉ own ∧ ∃ (w g : AVal) (L : List (Bool × Msg × Int)), h[e]? = some (.cells [.int .i64 self, .int .i64 other, .int .i64 s.next, w, .int .i64 s.want, g, .bool s.owes]) ∧
    SlO itC 7 h own w L ∧ L.map (·.2) = s.wait ∧ (∀ x ∈ L, x.1 = false → x.2.1.Cells = []) ∧ GotR g s.got
def EndQ (h : List HObj) (e : Nat) (own : List Nat) (self other : Int) (s : Lk) (h' : List HObj) : Prop :=
  ∃ own', EndR h' e own' self other s ∧ Fr (e :: own) h h' ∧ ∀ i ∈ own', i ∈ own ∨ h.length ≤ i ∧ i < h'.length
theorem EndR.frame {h h' : List HObj} {e : Nat} {own S : List Nat} {self other : Int} {s : Lk} (hr : EndR h e own self other s) (hf : Fr S h h') (he : e ∉ S) (hn : ∀ i ∈ own, i ∉ S) : EndR h' e own self other s := by
  obtain ⟨h1, w, g, L, h2, h3, h4⟩ := hr
  exact ⟨h1, w, g, L, hf.get he h2, h3.frame hf hn, h4⟩
theorem New_ok (self other : Int) (h : List HObj) : ACalls Try.prog F.link_New [.int .i64 self, .int .i64 other] h
    (fun v h' => (self < 0 ∨ 4 < self ∨ other < 0 ∨ 4 < other ∨ self = other) ∧ v = .tup [.nilptr, .int .i64 16] ∧ h' = h ∨
      ¬(self < 0 ∨ 4 < self ∨ other < 0 ∨ 4 < other ∨ self = other) ∧ v = .tup [.hp h.length 0, .int .i64 0] ∧ ∃ o, h' = h ++ [o] ∧ EndR h' h.length [] self other ⟨0, 0, [], [], false⟩) := by
  refine ACalls.of_aw Try.func81 K.link_New (by simp [Try.f81]) ?_
  generalize hQ : retQ R.link_New _ = Q
  simp (disch:=first|assumption|omega) only[C.link_New,go_sem,↓reduceIte,Nat.reduceEqDiff,reduceCtorEq,reduceIte]
  by_cases a1 : self < 0
  · have a2 : (if other < self then other else self) < 0 := by split <;> omega
    simp (disch:=first|assumption|omega) only[a2,go_sem,↓reduceIte,Nat.reduceEqDiff,reduceIte]
    subst hQ
    simp (disch:=first|assumption|omega) only[R.link_New,go_sem,↓reduceIte,Nat.reduceEqDiff,reduceIte]
    exact .inl (by omega)
  by_cases a3 : other < 0
  · have a2 : (if other < self then other else self) < 0 := by split <;> omega
    simp (disch:=first|assumption|omega) only[a2,go_sem,↓reduceIte,Nat.reduceEqDiff,reduceIte]
    subst hQ
    simp (disch:=first|assumption|omega) only[R.link_New,go_sem,↓reduceIte,Nat.reduceEqDiff,reduceIte]
    exact .inl (by omega)
  have a2 : ¬(if other < self then other else self) < 0 := by split <;> omega
  by_cases a4 : self > 4 ∨ other > 4
  · have a5 : (4 : Int) < (if self < other then other else self) := by split <;> omega
    simp (disch:=first|assumption|omega) only[a2,a5,go_sem,↓reduceIte,Nat.reduceEqDiff,reduceCtorEq,reduceIte]
    subst hQ
    simp (disch:=first|assumption|omega) only[R.link_New,go_sem,↓reduceIte,Nat.reduceEqDiff,reduceIte]
    exact .inl (by omega)
  have a5 : ¬(4 : Int) < (if self < other then other else self) := by split <;> omega
  by_cases a6 : self = other
  · subst a6
    simp (disch:=first|assumption|omega) only[a2,a5,go_sem,↓reduceIte,Nat.reduceEqDiff,reduceCtorEq,reduceIte]
    subst hQ
    simp (disch:=first|assumption|omega) only[R.link_New,go_sem,↓reduceIte,Nat.reduceEqDiff,reduceIte]
    exact .inl (by simp)
  · simp (disch:=first|assumption|omega) only[a2,a5,a6,go_sem,↓reduceIte,Nat.reduceEqDiff,reduceCtorEq,Nat.reduceAdd,Nat.reduceLeDiff,reduceIte,Int.reduceAdd]
    subst hQ
    simp (disch:=first|assumption|omega) only[R.link_New,go_sem,↓reduceIte,Nat.reduceEqDiff,reduceIte]
    exact .inr ⟨by omega, _, rfl, by simp, .lst .nil [], .lst .nil [], [], by simp, SlO.nil, rfl, by simp, .inl ⟨rfl, rfl⟩⟩
theorem Waits_ok (e : Nat) (own : List Nat) (self other : Int) (s : Lk) (h : List HObj) (hr : EndR h e own self other s) :
    ACalls Try.prog F.link_End_Waits [.hp e 0] h (fun v h' => v = .int .i64 s.wait.length ∧ h' = h) := by
  obtain ⟨h1, w, g, L, h2, h3, h4, h5⟩ := hr
  refine ACalls.of_aw Try.func83 K.link_End_Waits (by simp [Try.f83]) ?_
  generalize hQ : retQ R.link_End_Waits _ = Q
  simp (disch:=first|assumption|omega) only[C.link_End_Waits,go_sem,↓reduceIte,reduceCtorEq,Nat.reduceLeDiff,reduceIte]
  have hl : s.wait.length = L.length := by rw [← h4]; simp
  rcases h3.cases with ⟨rfl, rfl⟩ | ⟨id, off, cap, rfl, hc, hi, hs⟩
  · simp (disch:=first|assumption|omega) only[h2,go_sem,Nat.reduceAdd,Int.reduceAdd]
    subst hQ
    simp (disch:=first|assumption|omega) only[R.link_End_Waits,hl,go_sem,↓reduceIte,reduceIte]
  · simp (disch:=first|assumption|omega) only[h2,go_sem,Nat.reduceAdd,Int.reduceAdd]
    subst hQ
    simp (disch:=first|assumption|omega) only[R.link_End_Waits,hl,go_sem,↓reduceIte,reduceIte]
theorem Take_ok (e : Nat) (own : List Nat) (self other : Int) (s : Lk) (h : List HObj) (hr : EndR h e own self other s) :
    ACalls Try.prog F.link_End_Take [.hp e 0] h (fun v h' => GotR v s.got ∧ EndQ h e own self other { s with got := [] } h') := by
  obtain ⟨h1, w, g, L, h2, h3, h4, h5, h6⟩ := hr
  have hset : EndQ h e own self other { s with got := [] } (h.set e (.cells [.int .i64 self, .int .i64 other, .int .i64 s.next, w, .int .i64 s.want, .lst .nil [], .bool s.owes])) := by
    refine ⟨own, ⟨h1, w, .lst .nil [], L, get_set h2, h3.frame (S := [e]) (Fr.set (by simp)) (fun i hi hm => by simp at hm; subst hm; exact h1 hi), h4, h5, .inl ⟨rfl, rfl⟩⟩, Fr.set (by simp), fun i hi => .inl hi⟩
  refine ACalls.of_aw Try.func164 K.link_End_Take (by simp [Try.f164]) ?_
  generalize hQ : retQ R.link_End_Take _ = Q
  simp (disch:=first|assumption|omega) only[C.link_End_Take,go_sem,↓reduceIte,Nat.reduceEqDiff,reduceCtorEq,Nat.reduceAdd,reduceIte,Int.reduceAdd]
  rcases h6 with ⟨rfl, h6⟩ | ⟨xs, rfl, h6⟩
  · simp (disch:=first|assumption|omega) only[h2,get_set h2,List.set_set,go_sem,Nat.reduceAdd,Nat.reduceLeDiff,Int.reduceAdd]
    subst hQ
    simp (disch:=first|assumption|omega) only[R.link_End_Take,go_sem,↓reduceIte,reduceIte]
    exact ⟨.inl ⟨rfl, h6⟩, hset⟩
  · simp (disch:=first|assumption|omega) only[h2,get_set h2,List.set_set,go_sem,Nat.reduceAdd,Nat.reduceLeDiff,Int.reduceAdd]
    subst hQ
    simp (disch:=first|assumption|omega) only[R.link_End_Take,go_sem,↓reduceIte,reduceIte]
    exact ⟨.inr ⟨xs, rfl, h6⟩, hset⟩
theorem Put_ok (e : Nat) (own : List Nat) (self other : Int) (s : Lk) (n : Int) (k : Int) (o : Own) (cs : List Cell) (h : List HObj) (hr : EndR h e own self other s) (hs : s.ok n) (hn : n ≤ 1099511627776) (ho : Rdn o cs) (hl : cs.length * 16 ≤ reachBytes) :
    ACalls Try.prog F.link_End_Put [.hp e 0, .int .i64 k, .lst o (cellsA cs)] h (fun v h' => v = .int .i64 (putE s self other k cs) ∧ EndQ h e own self other (putS s self other k cs) h') := by
  obtain ⟨h1, w, g, L, h2, h3, h4, h5, h6⟩ := hr
  have hr0 : EndR h e own self other s := ⟨h1, w, g, L, h2, h3, h4, h5, h6⟩
  have hq0 : EndQ h e own self other s h := ⟨own, hr0, Fr.refl _ _, fun i hi => .inl hi⟩
  have hwl := hs.wait
  have hn0 := hs.next0
  have hn1 := hs.next1
  have hlw : L.length = s.wait.length := by rw [← h4]; simp
  have ho1 := ho.1
  refine ACalls.of_aw Try.func145 K.link_End_Put (by simp [Try.f145]) ?_
  generalize hQ : retQ R.link_End_Put _ = Q
  simp (disch:=first|assumption|omega) only[C.link_End_Put,go_sem,↓reduceIte,Nat.reduceEqDiff,reduceCtorEq,Nat.reduceLeDiff,reduceIte,Int.reduceNeg]
  simp (disch:=first|assumption|omega) only[h2,go_sem,Nat.reduceAdd,Int.reduceAdd,Int.reduceNeg]
  refine callpG_ok (R := fun r => ∃ o', r = .lst o' (cellsA cs) ∧ (o' = .nil ∧ cs = [] ∨ o' = .app 2)) (fun hp' => ACalls.mono (CloneCell_ok o cs ho hl hp') fun r h' hq => ⟨hq.2, hq.1⟩) (by simp (disch:=first|assumption|omega) only[go_sem]) ?_
  rintro _ ⟨o', rfl, ho'⟩
  obtain ⟨b, hb1, hb2, hb3⟩ : ∃ b, rdv (.lst o' (cellsA cs)) = .lst (ownB b) (cellsA cs) ∧ (b = false → cs = []) ∧ Ge.rdc (.lst o' (cellsA cs)) = .lst (ownB b) (cellsA cs) := by
    rcases ho' with ⟨rfl, e⟩ | rfl
    · exact ⟨false, rfl, fun _ => e, rfl⟩
    · exact ⟨true, rfl, (fun e => by cases e), rfl⟩
  have hbo := ownB_rdo b
  have hE : ∀ x, putE s self other k cs = x → x ≠ 0 → putS s self other k cs = s := fun x h1 h2 => by unfold putS; rw [if_neg (by omega)]
  simp (disch:=first|assumption|omega) only[hb1,go_sem,↓reduceIte,Nat.reduceEqDiff,Nat.reduceAdd,Nat.reduceLeDiff,reduceIte,Int.reduceAdd,Int.reduceNeg]
  by_cases hk : k = 3
  · have e1 : putE s self other k cs = 1 := by unfold putE; rw [if_pos hk]
    simp (disch:=first|assumption|omega) only[eq_true hk,go_sem,Int.reduceNeg]
    subst hQ
    simp (disch:=first|assumption|omega) only[R.link_End_Put,e1,hE _ e1 (by decide),go_sem,↓reduceIte,reduceIte]
    exact hq0
  simp (disch:=first|assumption|omega) only[hk,go_sem,↓reduceIte,Nat.reduceEqDiff,Nat.reduceAdd,Nat.reduceLeDiff,reduceIte,Int.reduceAdd,Int.reduceNeg]
  refine callG_ok (Check_ok (ownB b) (putM s self other k cs) hbo (by simp only[putM]; unfold reachBytes at hl; omega) _) (by simp (disch:=first|assumption|omega) only[go_sem]) ?_
  rintro _ _ ⟨rfl, hhh⟩
  rw [hhh]
  clear hhh
  by_cases hc : checkF (putM s self other k cs) = 0
  · by_cases h500 : s.wait.length = 500
    · have e1 : putE s self other k cs = 6 := by unfold putE; rw [if_neg hk, if_neg (by simp [hc]), if_pos h500]
      have h5' : (L.length : Int) = 500 := by omega
      rcases h3.cases with ⟨rfl, rfl⟩ | ⟨id, off, cap, rfl, hcp, hi, hs⟩
      · simp at h5'
      · simp (disch:=first|assumption|omega) only[hc,h2,eq_true h5',go_sem,↓reduceIte,reduceCtorEq,Nat.reduceAdd,Nat.reduceLeDiff,reduceIte,Int.reduceAdd,Int.reduceNeg]
        subst hQ
        simp (disch:=first|assumption|omega) only[R.link_End_Put,e1,hE _ e1 (by decide),go_sem,↓reduceIte,reduceIte]
        exact hq0
    · have e1 : putE s self other k cs = 0 := by unfold putE; rw [if_neg hk, if_neg (by simp [hc]), if_neg h500]
      have e2 : putS s self other k cs = { s with next := s.next + 1, wait := s.wait ++ [(putM s self other k cs, -1)] } := by unfold putS; rw [if_pos e1]
      have h5' : ¬(L.length : Int) = 500 := by omega
      have hnw : IntKind.i64.wrap (s.next + 1) = s.next + 1 := wrapI64 (by omega) (by omega)
      have h3' := h3
      have hpush : ∀ (C : CallS) (r : AOpn → AVal) (hp : List HObj) (K : AVal → List HObj → Prop) (x y : AOpn), hp = h.set e (.cells [.int .i64 self, .int .i64 other, .int .i64 (s.next + 1), w, .int .i64 s.want, g, .bool s.owes]) → r x = w → (∃ q, r y = .lst q [.agg (itC (b, putM s self other k cs, -1))]) →
          (∀ w' h', (h'[e]? = some (.cells [.int .i64 self, .int .i64 other, .int .i64 (s.next + 1), w, .int .i64 s.want, g, .bool s.owes])) → EndQ h e own self other (putS s self other k cs) (h'.set e (.cells [.int .i64 self, .int .i64 other, .int .i64 (s.next + 1), w', .int .i64 s.want, g, .bool s.owes])) → (∃ id off len cap, w' = .ref id off len cap) → K w' h') → hstep C r hp (.appendR 7 72 x y) K := by
        intro C r hp K x y hhp hx ⟨q, hy⟩ hK
        have hw1 : SlO itC 7 hp own w L := by rw [hhp]; exact h3'.frame (S := [e]) (Fr.set (by simp)) (fun i hi hm => by simp at hm; subst hm; exact h1 hi)
        refine hw1.push itC_len itC_st hx hy rfl rfl (by omega) (by omega) fun w' h' own' hs' hf hi => ?_
        have hlh : e < h.length := lt_of_get h2
        have hpl : hp.length = h.length := by rw [hhp]; simp
        have hge : h'[e]? = some (.cells [.int .i64 self, .int .i64 other, .int .i64 (s.next + 1), w, .int .i64 s.want, g, .bool s.owes]) := hf.get h1 (by rw [hhp]; exact get_set h2)
        have hen : e ∉ own' := fun hm => (hi e hm).elim h1 (fun hh => by have := hh.1; omega)
        refine hK w' h' hge ⟨own', ⟨hen, w', g, L ++ [(b, putM s self other k cs, -1)], by rw [e2]; exact get_set hge, hs'.frame (S := [e]) (Fr.set (by simp)) (fun i hi hm => by simp at hm; subst hm; exact hen hi), ?_, ?_, ?_⟩, ?_, fun i hm => ?_⟩ ?_
        · rw [e2]; simp [h4]
        · intro z hz hzb
          rcases List.mem_append.1 hz with hz | hz
          · exact h5 z hz hzb
          · simp at hz; subst hz; exact hb2 hzb
        · rw [e2]; exact h6
        · have f1 : Fr (e :: own) h hp := by rw [hhp]; exact Fr.set (by simp)
          exact (f1.trans (hf.mono (S' := e :: own) (fun i h => .inl (by simp [h]))) (fun i h => .inl h)).trans (Fr.set (S := [e]) (by simp)) (fun i h => .inl (by simp at h; simp [h]))
        · exact (hi i hm).imp id fun hh => ⟨by have := hh.1; omega, by rw [List.length_set]; exact hh.2⟩
        · rcases hs'.cases with ⟨_, e⟩ | ⟨id, off, cap, e, _⟩
          · simp at e
          · exact ⟨_, _, _, _, e⟩
      rcases h3.cases with ⟨rfl, rfl⟩ | ⟨id, off, cap, rfl, hcp, hi, hs⟩
      all_goals (
        simp (disch:=first|assumption|omega) only[hc,h2,h5',hnw,get_set h2,aops_hop,go_sem,↓reduceIte,Nat.reduceEqDiff,reduceCtorEq,Nat.reduceAdd,Nat.reduceLeDiff,reduceIte,Int.reduceAdd,Int.reduceMul,Int.reduceNeg,Int.reduceEq,Nat.reduceMul]
        refine hpush _ _ _ _ _ _ (by simp (disch:=first|assumption|omega) only[go_sem]) (by simp (disch:=first|assumption|omega) only[go_sem,↓reduceIte,Nat.reduceEqDiff,reduceIte,Int.reduceNeg]) ⟨.sh, by simp (disch:=first|assumption|omega) only[itC,msgC,putM,go_sem,↓reduceIte,reduceIte,Int.reduceNeg]⟩ ?_
        rintro _ h' hge hq ⟨id', off', len', cap', rfl⟩ _
        simp (disch:=first|assumption|omega) only[hge,go_sem,Nat.reduceAdd,Nat.reduceLeDiff,Int.reduceAdd,Int.reduceNeg]
        subst hQ
        simp (disch:=first|assumption|omega) only[R.link_End_Put,e1,go_sem,↓reduceIte,reduceIte,Int.reduceNeg]
        exact hq)
  · have e1 : putE s self other k cs = checkF (putM s self other k cs) := by unfold putE; rw [if_neg hk, if_pos hc]
    simp (disch:=first|assumption|omega) only[hc,go_sem,↓reduceIte,Nat.reduceEqDiff,reduceIte,Int.reduceNeg]
    subst hQ
    simp (disch:=first|assumption|omega) only[R.link_End_Put,e1,hE _ e1 hc,go_sem,↓reduceIte,reduceIte]
    exact hq0
def endC (self other : Int) (s : Lk) (w g : AVal) : HObj := .cells [.int .i64 self, .int .i64 other, .int .i64 s.next, w, .int .i64 s.want, g, .bool s.owes]
theorem In_ok (e : Nat) (own : List Nat) (self other : Int) (s : Lk) (n : Int) (q : Own) (m : Msg) (h : List HObj) (hr : EndR h e own self other s) (hs : s.ok n) (hn : n ≤ 1099511627776) (hq : Rdn q m.Cells) (hl : m.Cells.length < 4611686018427387904) :
    ACalls Try.prog F.link_End_In [.hp e 0, msgA q m] h (fun v h' => v = .int .i64 (inE s self other m) ∧ EndQ h e own self other (inS s self other m) h') := by
  obtain ⟨h1, w, g, L, h2, h3, h4, h5, h6⟩ := hr
  have hr0 : EndR h e own self other s := ⟨h1, w, g, L, h2, h3, h4, h5, h6⟩
  have hq0 : EndQ h e own self other s h := ⟨own, hr0, Fr.refl _ _, fun i hi => .inl hi⟩
  have hwl := hs.wait
  have hw0 := hs.want0
  have hw1 := hs.want1
  have hlw : L.length = s.wait.length := by rw [← h4]; simp
  have hq1 := hq.1
  have hE : ∀ x, inE s self other m = x → x ≠ 0 → inS s self other m = s := fun x h1 h2 => by unfold inS; rw [if_pos (by omega)]
  refine ACalls.of_aw Try.func168 K.link_End_In (by simp [Try.f168]) ?_
  generalize hQ : retQ R.link_End_In _ = Q
  simp (disch:=first|assumption|omega) only[C.link_End_In,go_sem,↓reduceIte,Nat.reduceEqDiff,Nat.reduceLeDiff,reduceIte]
  simp (disch:=first|assumption|omega) only[msgA,msgC,go_sem,Nat.reduceAdd,Nat.reduceLeDiff,Int.reduceAdd]
  refine callG_ok (Check_ok q m hq1 hl _) (by simp (disch:=first|assumption|omega) only[go_sem]) ?_
  rintro _ _ ⟨rfl, hhh⟩
  rw [hhh]
  clear hhh
  by_cases hc : checkF m = 0
  · by_cases hf : m.From = other
    case neg =>
      have e1 : inE s self other m = 16 := by unfold inE; rw [if_neg (by simp [hc]), if_pos (.inl hf)]
      simp (disch:=first|assumption|omega) only[hc,h2,hf,go_sem,↓reduceIte,Nat.reduceEqDiff,reduceCtorEq,Nat.reduceAdd,Nat.reduceLeDiff,reduceIte,Int.reduceAdd]
      subst hQ
      simp (disch:=first|assumption|omega) only[R.link_End_In,e1,hE _ e1 (by decide),go_sem,↓reduceIte,reduceIte]
      exact hq0
    by_cases ht : m.To = self
    case neg =>
      have e1 : inE s self other m = 16 := by unfold inE; rw [if_neg (by simp [hc]), if_pos (.inr ht)]
      simp (disch:=first|assumption|omega) only[hc,h2,eq_true hf,ht,go_sem,↓reduceIte,Nat.reduceEqDiff,reduceCtorEq,Nat.reduceAdd,Nat.reduceLeDiff,reduceIte,Int.reduceAdd]
      subst hQ
      simp (disch:=first|assumption|omega) only[R.link_End_In,e1,hE _ e1 (by decide),go_sem,↓reduceIte,reduceIte]
      exact hq0
    have hft : ¬(m.From ≠ other ∨ m.To ≠ self) := by simp [hf, ht]
    by_cases hk : m.Kind = 3
    · by_cases ho : s.next < m.Seq
      · have e1 : inE s self other m = 9 := by unfold inE; rw [if_neg (by simp [hc]), if_neg hft, if_pos ⟨hk, ho⟩]
        simp (disch:=first|assumption|omega) only[hc,h2,eq_true hf,eq_true ht,eq_true hk,ho,go_sem,↓reduceIte,Nat.reduceEqDiff,reduceCtorEq,Nat.reduceAdd,Nat.reduceLeDiff,reduceIte,Int.reduceAdd]
        subst hQ
        simp (disch:=first|assumption|omega) only[R.link_End_In,e1,hE _ e1 (by decide),go_sem,↓reduceIte,reduceIte]
        exact hq0
      · have e1 : inE s self other m = 0 := by unfold inE; rw [if_neg (by simp [hc]), if_neg hft, if_neg (fun h => ho h.2)]
        have e2 : inS s self other m = { s with wait := cutW m.Seq s.wait } := by unfold inS; rw [if_neg (by simp [e1]), if_pos hk]
        simp (disch:=first|assumption|omega) only[hc,h2,eq_true hf,eq_true ht,eq_true hk,ho,go_sem,↓reduceIte,Nat.reduceEqDiff,reduceCtorEq,Nat.reduceAdd,Nat.reduceLeDiff,reduceIte,Int.reduceAdd]
        refine aw_count (fun d S => ∃ (w' : AVal) (Lr : List (Bool × Msg × Int)), Lr.length = d ∧ SlO itC 7 h own w' Lr ∧ cutW m.Seq (Lr.map (·.2)) = cutW m.Seq s.wait ∧ (∀ x ∈ Lr, x ∈ L) ∧ S.env 0 = .hp e 0 ∧ S.env 3 = .box 3 0 ∧ S.boxes 3 = some [.int .i64 m.Kind, .int .i64 m.From, .int .i64 m.To, .int .i64 m.Seq, .int .u32 m.Clock, .lst q (cellsA m.Cells)] ∧ S.heap = h.set e (endC self other s w' g)) (n := L.length)
          ⟨w, L, rfl, h3, by rw [h4], fun x hx => hx, by simp (disch:=first|assumption|omega) only[go_sem,↓reduceIte,reduceCtorEq,reduceIte], by simp (disch:=first|assumption|omega) only[go_sem,↓reduceIte,Nat.reduceEqDiff,reduceIte], by simp (disch:=first|assumption|omega) only[go_sem,↓reduceIte,reduceIte], by simp (disch:=first|assumption|omega) only[setH_same h2,endC,go_sem]⟩ ?_
        rintro d S ⟨w', Lr, hd, hs', hcut, hsub, e0, e3, b3, eh⟩
        have hge : S.heap[e]? = some (endC self other s w' g) := by rw [eh]; exact get_set h2
        unfold endC at hge
        cases Lr with
        | nil =>
          have hl0 : ∃ w0, w' = w0 ∧ (w0 = .lst .nil [] ∨ ∃ id off cap, w0 = .ref id off 0 cap) := ⟨w', rfl, by rcases hs'.cases with ⟨h, _⟩ | ⟨id, off, cap, h, _⟩; exact .inl h; exact .inr ⟨_, _, _, h⟩⟩
          have hfin : EndQ h e own self other (inS s self other m) S.heap := by
            rw [eh, e2]
            refine ⟨own, ⟨h1, w', g, [], get_set h2, hs'.frame (S := [e]) (Fr.set (by simp)) (fun i hi hm => by simp at hm; subst hm; exact h1 hi), by simp only; rw [← hcut]; rfl, by simp, h6⟩, Fr.set (by simp), fun i hi => .inl hi⟩
          obtain ⟨w0, rfl, hl0⟩ := hl0
          rcases hl0 with rfl | ⟨id, off, cap, rfl⟩
          all_goals (
            simp (disch:=first|assumption|omega) only[e0,hge,go_sem,↓reduceIte,Nat.reduceEqDiff,Nat.reduceAdd,Nat.reduceLeDiff,Nat.reduceLT,reduceIte,Int.reduceLT,Int.reduceAdd]
            subst hQ
            simp (disch:=first|assumption|omega) only[R.link_End_In,e1,go_sem,↓reduceIte,reduceIte]
            exact hfin)
        | cons x Lr =>
          rcases hs'.cases with ⟨_, hh⟩ | ⟨id, off, cap, rfl, hcp, hi, hsr⟩
          · cases hh
          simp only[List.length_cons] at hcp
          obtain ⟨cs, c1, c2, c3, c4, c5⟩ := hsr.get itC_len (by simp)
          have hie : e ≠ id := fun h => h1 (h ▸ hi)
          have hid : S.heap[id]? = some (.cells cs) := by rw [eh, get_set_ne hie]; exact c1
          have c4' := getD_of_take (c4 0 (by simp) 3 1 (by omega))
          simp only[Nat.zero_mul,Nat.add_zero,List.getElem_cons_zero] at c4'
          simp only[List.length_cons] at c2
          have hx3 : cs.getD (off + 3) .junk = .int .i64 x.2.1.Seq := by rw [c4']; rfl
          have hp0 : (0 : Int) < ((Lr.length + 1 : Nat) : Int) := by omega
          by_cases hlt : x.2.1.Seq < m.Seq
          · simp (disch:=first|assumption|omega) only[e0,e3,b3,hge,hid,hx3,hlt,hp0,go_sem,↓reduceIte,Nat.reduceEqDiff,reduceCtorEq,Nat.reduceAdd,Nat.reduceLeDiff,reduceIte,Int.reduceLE,Int.reduceAdd]
            simp only[List.length_cons] at hd
            refine ⟨by omega, ⟨by omega, by omega⟩, Lr.length, by omega, .ref id (off + 7) (Lr.length + 1 - 1) (cap - 1), Lr, rfl, ⟨id, (hsr.tail itC_len).1, .inr hi⟩, ?_, fun y hy => hsub y (by simp [hy]), by rw [eh, List.set_set]; rfl⟩
            rw [← hcut]; simp only[List.map_cons,cutW,if_pos hlt]
          · have hfin : EndQ h e own self other (inS s self other m) S.heap := by
              rw [eh, e2]
              refine ⟨own, ⟨h1, _, g, x :: Lr, get_set h2, hs'.frame (S := [e]) (Fr.set (by simp)) (fun i hi hm => by simp at hm; subst hm; exact h1 hi), ?_, fun y hy => h5 y (hsub y hy), h6⟩, Fr.set (by simp), fun i hi => .inl hi⟩
              rw [← hcut]; simp only[List.map_cons,cutW,if_neg hlt]
            simp (disch:=first|assumption|omega) only[e0,e3,b3,hge,hid,hx3,hlt,hp0,go_sem,↓reduceIte,Nat.reduceEqDiff,reduceCtorEq,Nat.reduceAdd,Nat.reduceLeDiff,reduceIte,Int.reduceLE,Int.reduceAdd]
            subst hQ
            simp (disch:=first|assumption|omega) only[R.link_End_In,e1,go_sem,↓reduceIte,reduceIte]
            exact ⟨by omega, hfin⟩
    · have e1 : inE s self other m = 0 := by unfold inE; rw [if_neg (by simp [hc]), if_neg hft, if_neg (fun h => hk h.1)]
      have hm4 := checkF_len hc
      simp (disch:=first|assumption|omega) only[hc,h2,eq_true hf,eq_true ht,hk,get_set h2,go_sem,↓reduceIte,Nat.reduceEqDiff,reduceCtorEq,Nat.reduceAdd,Nat.reduceLeDiff,reduceIte,Int.reduceAdd]
      by_cases hw : m.Seq = s.want
      · have e2 : inS s self other m = { s with owes := true, want := s.want + 1, got := s.got ++ [m] } := by unfold inS; rw [if_neg (by simp [e1]), if_neg hk, if_pos hw]
        have hww : IntKind.i64.wrap (s.want + 1) = s.want + 1 := wrapI64 (by omega) (by omega)
        have hfin : ∀ xs' hp, MsgsOk (s.got ++ [m]) xs' → hp = h.set e (.cells [.int .i64 self, .int .i64 other, .int .i64 s.next, w, .int .i64 (s.want + 1), .lst (.app 6) xs', .bool true]) → EndQ h e own self other (inS s self other m) hp := by
          rintro xs' hp hx rfl
          rw [e2]
          exact ⟨own, ⟨h1, w, _, L, get_set h2, h3.frame (S := [e]) (Fr.set (by simp)) (fun i hi hm => by simp at hm; subst hm; exact h1 hi), h4, h5, .inr ⟨_, rfl, hx⟩⟩, Fr.set (by simp), fun i hi => .inl hi⟩
        rcases h6 with ⟨rfl, h6⟩ | ⟨xs, rfl, h6⟩
        · simp (disch:=first|assumption|omega) only[eq_true hw,hww,get_set h2,List.set_set,go_sem,↓reduceIte,Nat.reduceEqDiff,reduceCtorEq,Nat.reduceAdd,Nat.reduceLeDiff,reduceIte,Int.reduceAdd]
          refine callpG_ok (R := fun r => ∃ o', r = msgA o' m ∧ Rdn o' m.Cells) (fun hp' => ACalls.mono (Copy_ok q m hq (by unfold reachBytes; omega) hp') fun r h' hh => ⟨hh.2, hh.1⟩) (by simp (disch:=first|assumption|omega) only[go_sem]) ?_
          rintro _ ⟨o', rfl, ho'⟩
          have ho1 := ho'.1
          have hmx : MsgOk m (.agg [.int .i64 m.Kind, .int .i64 m.From, .int .i64 m.To, .int .i64 m.Seq, .int .u32 m.Clock, .lst o' (cellsA m.Cells)]) := ⟨o', ho', by unfold reachBytes; omega, rfl⟩
          simp (disch:=first|assumption|omega) only[msgA,msgC,get_set h2,List.set_set,go_sem,↓reduceIte,Nat.reduceEqDiff,Nat.reduceAdd,Nat.reduceLeDiff,reduceIte,Int.reduceAdd,Int.reduceMul,Nat.reduceMul]
          subst hQ
          simp (disch:=first|assumption|omega) only[R.link_End_In,e1,go_sem,↓reduceIte,reduceIte]
          exact hfin _ _ (h6 ▸ MsgsOk.snoc (l := []) (xs := []) hmx rfl) rfl
        · simp (disch:=first|assumption|omega) only[eq_true hw,hww,get_set h2,List.set_set,go_sem,↓reduceIte,Nat.reduceEqDiff,reduceCtorEq,Nat.reduceAdd,Nat.reduceLeDiff,reduceIte,Int.reduceAdd]
          refine callpG_ok (R := fun r => ∃ o', r = msgA o' m ∧ Rdn o' m.Cells) (fun hp' => ACalls.mono (Copy_ok q m hq (by unfold reachBytes; omega) hp') fun r h' hh => ⟨hh.2, hh.1⟩) (by simp (disch:=first|assumption|omega) only[go_sem]) ?_
          rintro _ ⟨o', rfl, ho'⟩
          have ho1 := ho'.1
          have hmx : MsgOk m (.agg [.int .i64 m.Kind, .int .i64 m.From, .int .i64 m.To, .int .i64 m.Seq, .int .u32 m.Clock, .lst o' (cellsA m.Cells)]) := ⟨o', ho', by unfold reachBytes; omega, rfl⟩
          have hxl := h6.length
          have hgl := hs.got
          simp (disch:=first|assumption|omega) only[msgA,msgC,get_set h2,List.set_set,go_sem,↓reduceIte,Nat.reduceEqDiff,Nat.reduceAdd,Nat.reduceLeDiff,reduceIte,Int.reduceAdd,Int.reduceMul,Nat.reduceMul]
          refine ⟨by omega, by omega, ?_⟩
          subst hQ
          simp (disch:=first|assumption|omega) only[R.link_End_In,e1,go_sem,↓reduceIte,reduceIte]
          exact hfin _ _ (h6.snoc hmx) rfl
      · have e2 : inS s self other m = { s with owes := true } := by unfold inS; rw [if_neg (by simp [e1]), if_neg hk, if_neg hw]
        have hfin : EndQ h e own self other (inS s self other m) (h.set e (.cells [.int .i64 self, .int .i64 other, .int .i64 s.next, w, .int .i64 s.want, g, .bool true])) := by
          rw [e2]
          exact ⟨own, ⟨h1, w, _, L, get_set h2, h3.frame (S := [e]) (Fr.set (by simp)) (fun i hi hm => by simp at hm; subst hm; exact h1 hi), h4, h5, h6⟩, Fr.set (by simp), fun i hi => .inl hi⟩
        simp (disch:=first|assumption|omega) only[hw,go_sem]
        subst hQ
        simp (disch:=first|assumption|omega) only[R.link_End_In,e1,go_sem,↓reduceIte,reduceIte]
        exact hfin
  · have e1 : inE s self other m = checkF m := by unfold inE; rw [if_pos hc]
    simp (disch:=first|assumption|omega) only[hc,go_sem,↓reduceIte,Nat.reduceEqDiff,reduceIte]
    subst hQ
    simp (disch:=first|assumption|omega) only[R.link_End_In,e1,hE _ e1 hc,go_sem,↓reduceIte,reduceIte]
    exact hq0
end Go.Proofs.Ytpdajkbfemcdlaa
namespace Go.Proofs.Ytpdajkbfemcdlaa
open Go.Ge
abbrev Fl := Bool × Msg × Int
def flC (x : Fl) : List AVal := .int .i64 x.2.2 :: msgC (ownB x.1) x.2.1
theorem flC_len (x : Fl) : (flC x).length = 7 := rfl
theorem flC_st (x : Fl) : ∀ c ∈ flC x, storC c = true ∧ Ge.rdc c = c := by
  intro c hc
  rcases List.mem_cons.1 hc with rfl | hc
  · exact ⟨rfl, rfl⟩
  · exact mgC_st (x.1, x.2.1) c hc
theorem flC_rdc (x : Fl) : (flC x).map Ge.rdc = flC x := by
  conv => rhs; rw [← List.map_id (flC x)]
  exact List.map_congr_left fun c hc => (flC_st x c hc).2
theorem flC_all (x : Fl) : (flC x).all storC = true := List.all_eq_true.2 fun c hc => (flC_st x c hc).1
theorem rowGet {L : List Fl} {rest : List AVal} {j : Nat} (h : j < L.length) : ((L.flatMap flC ++ rest).drop (j * 7)).take 7 = flC L[j] := by
  have := flatF_get (f := flC) (sz := 7) flC_len h (pre := []) (rest := rest) (off := 0) (k := 0) (n := 7) rfl (by omega)
  simp only[List.nil_append,Nat.zero_add,Nat.add_zero,List.drop_zero] at this
  rw [this]; rfl
theorem rowLen (L : List Fl) (rest : List AVal) : (L.flatMap flC ++ rest).length = L.length * 7 + rest.length := by
  rw [List.length_append, flatF_len flC_len]
end Go.Proofs.Ytpdajkbfemcdlaa
namespace Go.Proofs.Ytpdajkbfemcdlaa
open Go.Ge
theorem rowGetT {U R : List Fl} {p : Fl} {rest : List AVal} {k : Nat} (hk : U.length = k) : (((U ++ p :: R).flatMap flC ++ rest).drop (k * 7)).take 7 = flC p := by
  subst hk
  rw [List.flatMap_append, List.flatMap_cons, List.append_assoc, List.append_assoc, ← flatF_len flC_len, List.drop_left, ← flC_len p, List.take_left]
theorem rowSetT {U R : List Fl} {p : Fl} (x : Fl) {rest : List AVal} {k : Nat} (hk : U.length = k) : fillV ((U ++ p :: R).flatMap flC ++ rest) (k * 7) (flC x) = (U ++ x :: R).flatMap flC ++ rest := by
  subst hk
  unfold fillV
  rw [List.flatMap_append, List.flatMap_cons, List.flatMap_append, List.flatMap_cons, ← flatF_len flC_len]
  simp only[List.append_assoc]
  rw [List.take_left, flC_len, ← flC_len p, ← List.length_append, show U.flatMap flC ++ (flC p ++ (R.flatMap flC ++ rest)) = (U.flatMap flC ++ flC p) ++ (R.flatMap flC ++ rest) by simp, List.drop_left]
structure SwapT (L L1 L2 M1 : List Fl) (p q : Fl) (rest : List AVal) (i j : Nat) : Prop where
  q1 : ((L.flatMap flC ++ rest).drop (i * 7)).take 7 = flC p
  q2 : ((L.flatMap flC ++ rest).drop (j * 7)).take 7 = flC q
  s1 : fillV (L.flatMap flC ++ rest) (i * 7) (flC q) = L1.flatMap flC ++ rest
  s2 : fillV (L1.flatMap flC ++ rest) (j * 7) (flC p) = L2.flatMap flC ++ rest
  t1 : fillV (L.flatMap flC ++ rest) (j * 7) (flC p) = M1.flatMap flC ++ rest
  t2 : fillV (M1.flatMap flC ++ rest) (i * 7) (flC q) = L2.flatMap flC ++ rest
  l1 : L1.length = L.length
  l2 : L2.length = L.length
  m1 : M1.length = L.length
theorem swapT {U V W : List Fl} (p q : Fl) (rest : List AVal) {i j : Nat} (hi : U.length = i) (hj : U.length + 1 + V.length = j) :
    SwapT (U ++ p :: (V ++ q :: W)) (U ++ q :: (V ++ q :: W)) (U ++ q :: (V ++ p :: W)) (U ++ p :: (V ++ p :: W)) p q rest i j := by
  have e : ∀ (a b : Fl), U ++ a :: (V ++ b :: W) = (U ++ a :: V) ++ b :: W := fun a b => by simp
  have hl : ∀ a : Fl, (U ++ a :: V).length = j := fun a => by simp; omega
  refine ⟨rowGetT hi, ?_, rowSetT q hi, ?_, ?_, rowSetT q hi, by simp, by simp, by simp⟩
  · rw [e]; exact rowGetT (hl p)
  · rw [e, e q p]; exact rowSetT p (hl q)
  · rw [e, e p p]; exact rowSetT p (hl p)
theorem swapRangeT_ok (f : Nat) (X A Z B Y : List Fl) (N : Nat) (hN : (X ++ A ++ Z ++ B ++ Y).length = N) (id cap a b m : Nat) (ha : X.length = a) (hb : X.length + A.length + Z.length = b) (hP : A.length = m) (hQl : B.length = m) (rest : List AVal) (h : List HObj) (hid : h[id]? = some (.cells ((X ++ A ++ Z ++ B ++ Y).flatMap flC ++ rest))) (hn : N ≤ 1099511627776) :
    ACalls Try.prog F.slices_swapRangeCmpFunc_sent [.ref id 0 N cap, .int .i64 a, .int .i64 b, .int .i64 m, .func f []] h
      (fun v h' => v = .tup [] ∧ h' = h.set id (.cells ((X ++ B ++ Z ++ A ++ Y).flatMap flC ++ rest))) := by
  have hidl : id < h.length := (List.getElem?_eq_some_iff.1 hid).1
  have hNN : X.length + A.length + Z.length + B.length + Y.length = N := by simpa [Nat.add_assoc] using hN
  refine ACalls.of_aw Try.func239 K.slices_swapRangeCmpFunc_sent (by simp [Try.f239]) ?_
  generalize hQ : retQ R.slices_swapRangeCmpFunc_sent _ = Q
  simp (disch:=first|assumption|omega) only[C.slices_swapRangeCmpFunc_sent,go_sem]
  refine aw_count (fun d S => ∃ (i : Nat), i + d = m ∧ S.env 10 = .int .i64 i ∧ S.env 0 = .ref id 0 N cap ∧ S.env 1 = .int .i64 a ∧ S.env 2 = .int .i64 b ∧ S.env 3 = .int .i64 m ∧ S.heap = h.set id (.cells ((X ++ (B.take i ++ A.drop i) ++ Z ++ (A.take i ++ B.drop i) ++ Y).flatMap flC ++ rest))) (n := m)
    ⟨0, by omega, by simp (disch:=first|assumption|omega) only[go_sem,↓reduceIte,reduceIte], by simp (disch:=first|assumption|omega) only[go_sem,↓reduceIte,reduceCtorEq,reduceIte], by simp (disch:=first|assumption|omega) only[go_sem,↓reduceIte,Nat.reduceEqDiff,reduceIte], by simp (disch:=first|assumption|omega) only[go_sem,↓reduceIte,Nat.reduceEqDiff,reduceIte], by simp (disch:=first|assumption|omega) only[go_sem,↓reduceIte,Nat.reduceEqDiff,reduceIte], by simp (disch:=first|assumption|omega) only[go_sem]; exact (setH_same (by simpa only [List.append_assoc] using hid)).symm⟩ ?_
  rintro d S ⟨i, hi, e10, e0, e1, e2, e3, eh⟩
  by_cases hlt : (i : Int) < m
  · have hiP : i < A.length := by omega
    have hiQ : i < B.length := by omega
    have hsh : X ++ (B.take i ++ A.drop i) ++ Z ++ (A.take i ++ B.drop i) ++ Y = (X ++ B.take i) ++ A[i] :: ((A.drop (i + 1) ++ Z ++ A.take i) ++ B[i] :: (B.drop (i + 1) ++ Y)) := by
      rw [List.drop_eq_getElem_cons hiP, List.drop_eq_getElem_cons hiQ]; simp only[List.append_assoc,List.cons_append]
    have hsn : X ++ (B.take (i + 1) ++ A.drop (i + 1)) ++ Z ++ (A.take (i + 1) ++ B.drop (i + 1)) ++ Y = (X ++ B.take i) ++ B[i] :: ((A.drop (i + 1) ++ Z ++ A.take i) ++ A[i] :: (B.drop (i + 1) ++ Y)) := by
      rw [List.take_add_one, List.take_add_one, List.getElem?_eq_getElem hiP, List.getElem?_eq_getElem hiQ]; simp only[List.append_assoc,List.cons_append,List.nil_append,Option.toList_some]
    have sw := swapT (U := X ++ B.take i) (V := A.drop (i + 1) ++ Z ++ A.take i) (W := B.drop (i + 1) ++ Y) A[i] B[i] rest (i := a + i) (j := b + i) (by simp; omega) (by simp; omega)
    rw [hsh] at eh
    have hLl : ((X ++ B.take i) ++ A[i] :: ((A.drop (i + 1) ++ Z ++ A.take i) ++ B[i] :: (B.drop (i + 1) ++ Y))).length = N := by rw [← hsh]; simp; omega
    generalize (X ++ B.take i) ++ A[i] :: ((A.drop (i + 1) ++ Z ++ A.take i) ++ B[i] :: (B.drop (i + 1) ++ Y)) = L at *
    generalize (X ++ B.take i) ++ B[i] :: ((A.drop (i + 1) ++ Z ++ A.take i) ++ B[i] :: (B.drop (i + 1) ++ Y)) = L1 at *
    generalize (X ++ B.take i) ++ B[i] :: ((A.drop (i + 1) ++ Z ++ A.take i) ++ A[i] :: (B.drop (i + 1) ++ Y)) = L2 at *
    obtain ⟨q1, q2, s1, s2, _, _, l1, l2, _⟩ := sw
    have hget : (h.set id (.cells (L.flatMap flC ++ rest)))[id]? = some (.cells (L.flatMap flC ++ rest)) := List.getElem?_set_self hidl
    have hget2 : (h.set id (.cells (L1.flatMap flC ++ rest)))[id]? = some (.cells (L1.flatMap flC ++ rest)) := List.getElem?_set_self hidl
    have hlen := rowLen L rest
    have hlen2 := rowLen L1 rest
    have k1 : (((a : Nat) : Int) + i).toNat = a + i := by omega
    have k2 : (((b : Nat) : Int) + i).toNat = b + i := by omega
    simp (disch:=first|assumption|omega) only[e10,e0,e1,e2,e3,eh,hlt,hget,q1,q2,k1,k2,hlen,flC_rdc,flC_all,flC_len,s1,s2,List.set_set,hget2,hlen2,l1,go_sem,↓reduceIte,Nat.reduceEqDiff,reduceCtorEq,Nat.reduceLeDiff,reduceIte]
    exact ⟨⟨by omega, by omega⟩, by omega, ⟨by omega, by omega⟩, by omega, ⟨by omega, by omega⟩, by omega, ⟨by omega, by omega⟩, by omega, d - 1, by omega, i + 1, by omega, by simp, by simpa only [List.append_assoc] using congrArg (fun L => h.set id (HObj.cells (L.flatMap flC ++ rest))) hsn.symm⟩
  · obtain rfl : i = m := by omega
    rw [List.take_of_length_le (by omega), List.take_of_length_le (by omega), List.drop_of_length_le (by omega), List.drop_of_length_le (by omega), List.append_nil, List.append_nil] at eh
    simp (disch:=first|assumption|omega) only[e10,e3,hlt,go_sem,↓reduceIte,Nat.reduceEqDiff,reduceIte]
    subst hQ
    simp (disch:=first|assumption|omega) only[R.slices_swapRangeCmpFunc_sent,eh,go_sem]
theorem rotateT_ok (f : Nat) (X A B Y : List Fl) (N : Nat) (hN : (X ++ A ++ B ++ Y).length = N) (id cap a m b : Nat) (hXa : X.length = a) (hXm : X.length + A.length = m) (hXb : m + B.length = b) (rest : List AVal) (h : List HObj) (hid : h[id]? = some (.cells ((X ++ A ++ B ++ Y).flatMap flC ++ rest))) (ha : a < m) (hm : m < b) (hn : N ≤ 1099511627776) :
    ACalls Try.prog F.slices_rotateCmpFunc_sent [.ref id 0 N cap, .int .i64 a, .int .i64 m, .int .i64 b, .func f []] h
      (fun v h' => v = .tup [] ∧ h' = h.set id (.cells ((X ++ B ++ A ++ Y).flatMap flC ++ rest))) := by
  have hidl : id < h.length := (List.getElem?_eq_some_iff.1 hid).1
  have hNN : X.length + A.length + B.length + Y.length = N := by simpa [Nat.add_assoc] using hN
  refine ACalls.of_aw Try.func231 K.slices_rotateCmpFunc_sent (by simp [Try.f231]) ?_
  generalize hQ : retQ R.slices_rotateCmpFunc_sent _ = Q
  simp (disch:=first|assumption|omega) only[C.slices_rotateCmpFunc_sent,go_sem,↓reduceIte,Nat.reduceEqDiff,reduceIte]
  refine aw_count (fun d S => ∃ (U A' B' W : List Fl), A'.length + B'.length = d ∧ 1 ≤ A'.length ∧ 1 ≤ B'.length ∧ U.length + A'.length = m ∧ (U ++ A' ++ B' ++ W).length = N ∧ U ++ B' ++ A' ++ W = X ++ B ++ A ++ Y ∧ S.env 10 = .int .i64 A'.length ∧ S.env 11 = .int .i64 B'.length ∧ S.env 0 = .ref id 0 N cap ∧ S.env 2 = .int .i64 m ∧ S.env 4 = .func f [] ∧ S.heap = h.set id (.cells ((U ++ A' ++ B' ++ W).flatMap flC ++ rest))) (n := A.length + B.length)
    ⟨X, A, B, Y, rfl, by omega, by omega, by omega, by omega, rfl, by simp (disch:=first|assumption|omega) only[go_sem,↓reduceIte,Nat.reduceEqDiff,reduceIte]; congr 1; omega, by simp (disch:=first|assumption|omega) only[go_sem,↓reduceIte,reduceIte]; congr 1; omega, by simp (disch:=first|assumption|omega) only[go_sem,↓reduceIte,reduceCtorEq,reduceIte], by simp (disch:=first|assumption|omega) only[go_sem,↓reduceIte,Nat.reduceEqDiff,reduceIte], by simp (disch:=first|assumption|omega) only[go_sem,↓reduceIte,Nat.reduceEqDiff,reduceIte], by simp (disch:=first|assumption|omega) only[go_sem]; exact (setH_same (by simpa only [List.append_assoc] using hid)).symm⟩ ?_
  rintro d S ⟨U, A', B', W, hd, hi, hj, hia, hUN, hT, e10, e11, e0, e2, e4, eh⟩
  have hUN2 : U.length + A'.length + B'.length + W.length = N := by simpa [Nat.add_assoc] using hUN
  have call : ∀ (H : List HObj) (K P Z R V : List Fl) (x y z : Nat) (p q r : Int), H = h.set id (.cells ((U ++ A' ++ B' ++ W).flatMap flC ++ rest)) → K ++ P ++ Z ++ R ++ V = U ++ A' ++ B' ++ W → K.length = x → K.length + P.length + Z.length = y → P.length = z → R.length = z → p = x → q = y → r = z → ACalls Try.prog F.slices_swapRangeCmpFunc_sent [.ref id 0 N cap, .int .i64 p, .int .i64 q, .int .i64 r, .func f []] H (fun v h' => v = .tup [] ∧ h' = h.set id (.cells ((K ++ R ++ Z ++ P ++ V).flatMap flC ++ rest))) := by
    rintro _ K P Z R V x y z _ _ _ rfl hK h1 h2 h3 h4 rfl rfl rfl
    refine ACalls.mono (swapRangeT_ok f K P Z R V N (by rw [hK]; exact hUN) id cap x y z h1 h2 h3 h4 rest _ (by rw [hK]; exact List.getElem?_set_self hidl) hn) fun v h' ⟨e1, e3⟩ => ⟨e1, by rw [e3, List.set_set]⟩
  by_cases hij : A'.length = B'.length
  · have hself : ((A'.length : Int) = B'.length) = True := by rw [hij]; exact eq_self _
    simp (disch:=first|assumption|omega) only[e10,e11,e0,e2,e4,hself,go_sem,↓reduceIte,Nat.reduceEqDiff,reduceCtorEq,reduceIte]
    refine callG_ok (call _ U A' [] B' W (m - A'.length) m A'.length ((m : Int) - A'.length) m A'.length (by simp (disch:=first|assumption|omega) only[eh,go_sem]) (by simp) (by omega) (by simp; omega) rfl hij.symm (by omega) rfl rfl) (by simp (disch:=first|assumption|omega) only[go_sem]) ?_
    rintro _ _ ⟨rfl, hhh⟩
    rw [hhh, List.append_nil, hT]
    clear hhh
    simp (disch:=first|assumption|omega) only[go_sem]
    subst hQ
    simp (disch:=first|assumption|omega) only[R.slices_rotateCmpFunc_sent,go_sem]
  · have hij' : ¬ (A'.length : Int) = B'.length := by omega
    by_cases hgt : B'.length < A'.length
    · have hgt' : (B'.length : Int) < A'.length := by omega
      have hsp : A'.take B'.length ++ A'.drop B'.length = A' := List.take_append_drop _ _
      have hl1 : (A'.take B'.length).length = B'.length := by rw [List.length_take]; omega
      have hl2 : (A'.drop B'.length).length = A'.length - B'.length := List.length_drop
      generalize A'.take B'.length = P1 at *
      generalize A'.drop B'.length = P2 at *
      simp (disch:=first|assumption|omega) only[e10,e11,e0,e2,e4,hij',hgt',go_sem,↓reduceIte,Nat.reduceEqDiff,reduceCtorEq,reduceIte]
      refine callG_ok (call _ U P1 P2 B' W (m - A'.length) m B'.length ((m : Int) - A'.length) m B'.length (by simp (disch:=first|assumption|omega) only[eh,go_sem]) (by rw [← hsp]; simp) (by omega) (by omega) hl1 rfl (by omega) rfl rfl) (by simp (disch:=first|assumption|omega) only[go_sem]) ?_
      rintro _ _ ⟨rfl, hhh⟩
      rw [hhh]
      clear hhh
      simp (disch:=first|assumption|omega) only[e10,e11,e0,e2,e4,go_sem,↓reduceIte,Nat.reduceEqDiff,reduceCtorEq,reduceIte]
      exact ⟨P2.length + P1.length, by omega, U ++ B', P2, P1, W, rfl, by omega, by omega, by rw [List.length_append]; omega, by simp; omega, by have := hT; rw [← hsp] at this; simpa using this, by congr 1; omega, by congr 1; omega, by simp⟩
    · have hgt' : ¬ (B'.length : Int) < A'.length := by omega
      have hsp : B'.take (B'.length - A'.length) ++ B'.drop (B'.length - A'.length) = B' := List.take_append_drop _ _
      have hl1 : (B'.take (B'.length - A'.length)).length = B'.length - A'.length := by rw [List.length_take]; omega
      have hl2 : (B'.drop (B'.length - A'.length)).length = A'.length := by rw [List.length_drop]; omega
      generalize B'.take (B'.length - A'.length) = P1 at *
      generalize B'.drop (B'.length - A'.length) = P2 at *
      simp (disch:=first|assumption|omega) only[e10,e11,e0,e2,e4,hij',hgt',go_sem,↓reduceIte,Nat.reduceEqDiff,reduceCtorEq,reduceIte]
      refine callG_ok (call _ U A' P1 P2 W (m - A'.length) (m + B'.length - A'.length) A'.length ((m : Int) - A'.length) ((m : Int) + B'.length - A'.length) A'.length (by simp (disch:=first|assumption|omega) only[eh,go_sem]) (by rw [← hsp]; simp) (by omega) (by omega) rfl hl2 (by omega) (by omega) rfl) (by simp (disch:=first|assumption|omega) only[go_sem]) ?_
      rintro _ _ ⟨rfl, hhh⟩
      rw [hhh]
      clear hhh
      simp (disch:=first|assumption|omega) only[e10,e11,e0,e2,e4,go_sem,↓reduceIte,Nat.reduceEqDiff,reduceCtorEq,reduceIte]
      exact ⟨P2.length + P1.length, by omega, U, P2, P1, A' ++ W, rfl, by omega, by omega, by omega, by simp; omega, by have := hT; rw [← hsp] at this; simpa using this, by congr 1; omega, by congr 1; omega, by simp⟩
end Go.Proofs.Ytpdajkbfemcdlaa
namespace Go.Proofs.Ytpdajkbfemcdlaa
open Go.Ge
theorem half_sum {a b : Nat} (h : a + b < 9223372036854775808) : IntKind.i64.wrap (Int.fdiv ((a : Int) + b) (2 ^ min (Int.toNat 1) 64)) = (((a + b) / 2 : Nat) : Int) := by
  rw [show ((2 : Int) ^ min (Int.toNat 1) 64) = 2 from rfl, Int.fdiv_eq_ediv_of_nonneg _ (by omega), wrapI64 (by omega) (by omega)]
  omega
end Go.Proofs.Ytpdajkbfemcdlaa
namespace Go.Proofs.Ytpdajkbfemcdlaa
open Go.Ge
def CmpD (f : Nat) (cf : Fl → Fl → Int) : Prop := ∀ (a b : Fl) (h : List HObj), ACalls Try.prog f [.agg (flC a), .agg (flC b)] h (fun v h' => v = .int .i64 (cf a b) ∧ h' = h)
theorem insSentNil_ok (f : Nat) (h : List HObj) : ACalls Try.prog F.slices_insertionSortCmpFunc_sent [.lst .nil [], .int .i64 0, .int .i64 0, .func f []] h (fun v h' => v = .tup [] ∧ h' = h) := by
  refine ACalls.of_aw Try.func216 K.slices_insertionSortCmpFunc_sent (by simp [Try.f216]) ?_
  generalize hQ : retQ R.slices_insertionSortCmpFunc_sent _ = Q
  simp (disch:=first|assumption|omega) only[C.slices_insertionSortCmpFunc_sent,go_sem,↓reduceIte,reduceIte]
  refine aw_count (fun d S => S.env 8 = .int .i64 1 ∧ S.env 2 = .int .i64 0 ∧ S.heap = h) (n := 0) ⟨by simp (disch:=first|assumption|omega) only[go_sem,↓reduceIte,reduceIte], by simp (disch:=first|assumption|omega) only[go_sem,↓reduceIte,Nat.reduceEqDiff,reduceIte], by simp (disch:=first|assumption|omega) only[go_sem]⟩ ?_
  rintro d S ⟨e8, e2, eh⟩
  simp (disch:=first|assumption|omega) only[e8,e2,go_sem,↓reduceIte,Nat.reduceEqDiff,Nat.reduceLT,reduceIte,Int.reduceLT]
  subst hQ
  simp (disch:=first|assumption|omega) only[R.slices_insertionSortCmpFunc_sent,eh,go_sem]
theorem SortStableNil_ok (f : Nat) (h : List HObj) : ACalls Try.prog F.slices_SortStableFunc_sent [.lst .nil [], .func f []] h (fun v h' => v = .tup [] ∧ h' = h) := by
  have hst : ACalls Try.prog F.slices_stableCmpFunc_sent [.lst .nil [], .int .i64 0, .func f []] h (fun v h' => v = .tup [] ∧ h' = h) := by
    refine ACalls.of_aw Try.func199 K.slices_stableCmpFunc_sent (by simp [Try.f199]) ?_
    generalize hQ : retQ R.slices_stableCmpFunc_sent _ = Q
    simp (disch:=first|assumption|omega) only[C.slices_stableCmpFunc_sent,go_sem,↓reduceIte,Nat.reduceEqDiff,reduceIte]
    refine aw_count (fun d S => S.env 7 = .int .i64 0 ∧ S.env 8 = .int .i64 20 ∧ S.env 6 = .int .i64 20 ∧ S.env 0 = .lst .nil [] ∧ S.env 1 = .int .i64 0 ∧ S.env 2 = .func f [] ∧ S.heap = h) (n := 0) ⟨by simp (disch:=first|assumption|omega) only[go_sem,↓reduceIte,Nat.reduceEqDiff,reduceIte], by simp (disch:=first|assumption|omega) only[go_sem,↓reduceIte,reduceIte], by simp (disch:=first|assumption|omega) only[go_sem,↓reduceIte,Nat.reduceEqDiff,reduceIte], by simp (disch:=first|assumption|omega) only[go_sem,↓reduceIte,reduceCtorEq,reduceIte], by simp (disch:=first|assumption|omega) only[go_sem,↓reduceIte,Nat.reduceEqDiff,reduceIte], by simp (disch:=first|assumption|omega) only[go_sem,↓reduceIte,Nat.reduceEqDiff,reduceIte], by simp (disch:=first|assumption|omega) only[go_sem]⟩ ?_
    rintro d S ⟨e7, e8, e6, e0, e1, e2, eh⟩
    simp (disch:=first|assumption|omega) only[e7,e8,e0,e1,e2,go_sem,↓reduceIte,Nat.reduceEqDiff,reduceCtorEq,reduceIte,Int.reduceLE]
    refine callG_ok (insSentNil_ok f _) (by simp (disch:=first|assumption|omega) only[go_sem]) ?_
    rintro _ _ ⟨rfl, hhh⟩
    rw [hhh]
    clear hhh
    simp (disch:=first|assumption|omega) only[go_sem]
    refine aw_count (fun d S => S.env 6 = .int .i64 20 ∧ S.env 1 = .int .i64 0 ∧ S.heap = h) (n := 0) ⟨by simp (disch:=first|assumption|omega) only[e6,go_sem,↓reduceIte,Nat.reduceEqDiff,reduceIte], by simp (disch:=first|assumption|omega) only[e1,go_sem,↓reduceIte,Nat.reduceEqDiff,reduceIte], by simp (disch:=first|assumption|omega) only[eh,go_sem]⟩ ?_
    clear e7 e8 e6 e0 e1 e2 eh
    rintro d S ⟨e6, e1, eh⟩
    simp (disch:=first|assumption|omega) only[e6,e1,go_sem,↓reduceIte,Nat.reduceEqDiff,Nat.reduceLT,reduceIte,Int.reduceLT]
    subst hQ
    simp (disch:=first|assumption|omega) only[R.slices_stableCmpFunc_sent,eh,go_sem]
  refine ACalls.of_aw Try.func166 K.slices_SortStableFunc_sent (by simp [Try.f166]) ?_
  generalize hQ : retQ R.slices_SortStableFunc_sent _ = Q
  simp (disch:=first|assumption|omega) only[C.slices_SortStableFunc_sent,go_sem,↓reduceIte,Nat.reduceEqDiff,reduceCtorEq,reduceIte]
  refine callG_ok (hst) (by simp (disch:=first|assumption|omega) only[go_sem]) ?_
  rintro _ _ ⟨rfl, hhh⟩
  rw [hhh]
  clear hhh
  simp (disch:=first|assumption|omega) only[go_sem]
  subst hQ
  simp (disch:=first|assumption|omega) only[R.slices_SortStableFunc_sent,go_sem]
def cfDue (a b : Fl) : Int := IntKind.i64.wrap (a.2.2 - b.2.2)
theorem cmpDue_ok : CmpD F.net_Net_Take_1 cfDue := by
  intro a b h
  refine ACalls.of_aw Try.func167 K.net_Net_Take_1 (by simp [Try.f167]) ?_
  generalize hQ : retQ R.net_Net_Take_1 _ = Q
  simp (disch:=first|assumption|omega) only[C.net_Net_Take_1,go_sem,↓reduceIte,Nat.reduceEqDiff,reduceCtorEq,Nat.reduceLeDiff,reduceIte]
  simp (disch:=first|assumption|omega) only[flC,msgC,go_sem,Nat.reduceAdd,Int.reduceAdd]
  subst hQ
  simp (disch:=first|assumption|omega) only[R.net_Net_Take_1,go_sem,↓reduceIte,reduceIte]
  trace_state
  rfl
end Go.Proofs.Ytpdajkbfemcdlaa
namespace Go.Proofs.Ytpdajkbfemcdlaa
open Go.Ge
def kd (x : Fl) : Int := x.2.2
def isD (d : Int) (x : Fl) : Bool := decide (kd x = d)
def Srt (L : List Fl) : Prop := L.Pairwise fun x y => kd x ≤ kd y
def kat (L : List Fl) (i : Nat) : Int := (L.map kd).getD i 0
theorem kat_get {L : List Fl} {i : Nat} (h : i < L.length) : kat L i = kd L[i] := by
  simp [kat, List.getD_eq_getElem?_getD, h]
structure Mg (A B M : List Fl) : Prop where
  srt : Srt M
  perm : M.Perm (A ++ B)
  fil : ∀ d, M.filter (isD d) = A.filter (isD d) ++ B.filter (isD d)
theorem Mg.len {A B M : List Fl} (h : Mg A B M) : M.length = A.length + B.length := by rw [h.perm.length_eq, List.length_append]
theorem Mg.same {A B : List Fl} (h : Srt (A ++ B)) : Mg A B (A ++ B) := ⟨h, List.Perm.refl _, fun d => List.filter_append ..⟩
theorem Mg.nilL {B : List Fl} (h : Srt B) : Mg [] B B := ⟨h, List.Perm.refl _, fun d => rfl⟩
theorem Mg.nilR {A : List Fl} (h : Srt A) : Mg A [] A := ⟨h, by rw [List.append_nil], fun d => by simp⟩
theorem Srt.left {A B : List Fl} (h : Srt (A ++ B)) : Srt A := (List.pairwise_append.1 h).1
theorem Srt.right {A B : List Fl} (h : Srt (A ++ B)) : Srt B := (List.pairwise_append.1 h).2.1
theorem Srt.cross {A B : List Fl} (h : Srt (A ++ B)) {x y : Fl} (hx : x ∈ A) (hy : y ∈ B) : kd x ≤ kd y := (List.pairwise_append.1 h).2.2 x hx y hy
theorem Srt.app {A B : List Fl} (h : Srt A) (k : Srt B) (hc : ∀ x ∈ A, ∀ y ∈ B, kd x ≤ kd y) : Srt (A ++ B) := List.pairwise_append.2 ⟨h, k, hc⟩
theorem Srt.one (x : Fl) : Srt [x] := List.pairwise_singleton _ _
theorem Srt.nil : Srt [] := List.Pairwise.nil
theorem fil_swap {A B : List Fl} (h : ∀ b ∈ B, ∀ a ∈ A, kd b < kd a) (d : Int) : B.filter (isD d) ++ A.filter (isD d) = A.filter (isD d) ++ B.filter (isD d) := by
  by_cases e : B.filter (isD d) = []
  · rw [e]; simp
  · obtain ⟨b, hb⟩ := List.exists_mem_of_ne_nil _ e
    obtain ⟨h1, h2⟩ := List.mem_filter.1 hb
    have : A.filter (isD d) = [] := by
      rw [List.filter_eq_nil_iff]
      intro a ha
      have := h b h1 a ha
      simp only[isD,decide_eq_true_eq] at h2 ⊢
      omega
    rw [this]; simp
theorem Mg.join {A1 A2 B1 B2 M1 M2 : List Fl} (hA : Srt (A1 ++ A2)) (hB : Srt (B1 ++ B2)) (h1 : ∀ a ∈ A1, ∀ b ∈ B2, kd a ≤ kd b) (h2 : ∀ b ∈ B1, ∀ a ∈ A2, kd b < kd a) (m1 : Mg A1 B1 M1) (m2 : Mg A2 B2 M2) : Mg (A1 ++ A2) (B1 ++ B2) (M1 ++ M2) := by
  refine ⟨m1.srt.app m2.srt fun x hx y hy => ?_, ?_, fun d => ?_⟩
  · have hx2 := m1.perm.mem_iff.1 hx
    have hy2 := m2.perm.mem_iff.1 hy
    rcases List.mem_append.1 hx2 with hx2 | hx2 <;> rcases List.mem_append.1 hy2 with hy2 | hy2
    · exact hA.cross hx2 hy2
    · exact h1 x hx2 y hy2
    · exact Int.le_of_lt (h2 x hx2 y hy2)
    · exact hB.cross hx2 hy2
  · refine (m1.perm.append m2.perm).trans ?_
    simp only[List.append_assoc]
    refine List.Perm.append_left _ ?_
    rw [← List.append_assoc, ← List.append_assoc]
    exact List.Perm.append_right _ List.perm_append_comm
  · rw [List.filter_append, m1.fil, m2.fil, List.filter_append, List.filter_append]
    simp only[List.append_assoc]
    congr 1
    rw [← List.append_assoc, fil_swap h2, List.append_assoc]
theorem Mg.left1 {x : Fl} {B1 B2 : List Fl} (hB : Srt (B1 ++ B2)) (h2 : ∀ b ∈ B1, kd b < kd x) (h1 : ∀ b ∈ B2, kd x ≤ kd b) : Mg [x] (B1 ++ B2) (B1 ++ x :: B2) :=
  Mg.join (A1 := []) (A2 := [x]) (B1 := B1) (B2 := B2) (Srt.one x) hB (fun a ha => by cases ha) (fun b hb a ha => by simp at ha; subst ha; exact h2 b hb) (Mg.nilL hB.left) (Mg.same (A := [x]) ((Srt.one x).app hB.right fun a ha b hb => by simp at ha; subst ha; exact h1 b hb))
theorem Mg.right1 {y : Fl} {A1 A2 : List Fl} (hA : Srt (A1 ++ A2)) (h1 : ∀ a ∈ A1, kd a ≤ kd y) (h2 : ∀ a ∈ A2, kd y < kd a) : Mg (A1 ++ A2) [y] (A1 ++ y :: A2) := by
  have := Mg.join (A1 := A1) (A2 := A2) (B1 := [y]) (B2 := []) hA (Srt.one y) (fun a _ b hb => by cases hb) (fun b hb a ha => by simp at hb; subst hb; exact h2 a ha) (Mg.same (hA.left.app (Srt.one y) fun a ha b hb => by simp at hb; subst hb; exact h1 a ha)) (Mg.nilR hA.right)
  simpa using this
structure Sec (L : List Fl) (a m : Nat) (A : List Fl) : Prop where
  len : a + A.length = m
  get : ∀ (k : Nat) (h : k < A.length), kat L (a + k) = kd A[k]
  srt : Srt A
theorem Sec.mono {L A : List Fl} {a m i j : Nat} (s : Sec L a m A) (hi : a ≤ i) (hij : i ≤ j) (hj : j < m) : kat L i ≤ kat L j := by
  have hl := s.len
  obtain ⟨p, rfl⟩ : ∃ p, i = a + p := ⟨i - a, by omega⟩
  obtain ⟨q, rfl⟩ : ∃ q, j = a + q := ⟨j - a, by omega⟩
  rw [s.get p (by omega), s.get q (by omega)]
  by_cases e : p = q
  · subst e; exact Int.le_refl _
  · exact List.pairwise_iff_getElem.1 s.srt p q (by omega) (by omega) (by omega)
theorem Sec.take {L A : List Fl} {a m k : Nat} {x : Fl} (s : Sec L a m A) (h : x ∈ A.take k) : ∃ i, a ≤ i ∧ i < a + k ∧ i < m ∧ kd x = kat L i := by
  obtain ⟨i, hi, rfl⟩ := List.getElem_of_mem h
  rw [List.length_take] at hi
  refine ⟨a + i, by omega, by omega, by have := s.len; omega, ?_⟩
  rw [s.get i (by omega), List.getElem_take]
theorem Sec.drop {L A : List Fl} {a m k : Nat} {x : Fl} (s : Sec L a m A) (h : x ∈ A.drop k) : ∃ i, a + k ≤ i ∧ i < m ∧ kd x = kat L i := by
  obtain ⟨i, hi, rfl⟩ := List.getElem_of_mem h
  rw [List.length_drop] at hi
  refine ⟨a + (k + i), by omega, by have := s.len; omega, ?_⟩
  rw [s.get (k + i) (by omega), List.getElem_drop]
theorem Sec.of {X A R : List Fl} {a m : Nat} (h1 : X.length = a) (h2 : a + A.length = m) (h3 : Srt A) : Sec (X ++ A ++ R) a m A := by
  subst h1
  refine ⟨h2, fun k hk => ?_, h3⟩
  unfold kat
  rw [List.getD_eq_getElem?_getD, List.getElem?_map, List.append_assoc, List.getElem?_append_right (by omega), Nat.add_sub_cancel_left, List.getElem?_append_left hk, List.getElem?_eq_getElem hk]
  rfl
structure St (L M : List Fl) : Prop where
  srt : Srt M
  perm : M.Perm L
  fil : ∀ d, M.filter (isD d) = L.filter (isD d)
theorem St.nil : St [] [] := ⟨Srt.nil, List.Perm.refl _, fun _ => rfl⟩
theorem Mg.st {A B M A0 B0 : List Fl} (h : Mg A B M) (ha : St A0 A) (hb : St B0 B) : St (A0 ++ B0) M :=
  ⟨h.srt, h.perm.trans (ha.perm.append hb.perm), fun d => by rw [h.fil, ha.fil, hb.fil, List.filter_append]⟩
theorem St.snoc {U V L : List Fl} {x : Fl} (h : St L (U ++ V)) (h1 : ∀ a ∈ U, kd a ≤ kd x) (h2 : ∀ a ∈ V, kd x < kd a) : St (L ++ [x]) (U ++ x :: V) :=
  (Mg.right1 h.srt h1 h2).st h ⟨Srt.one x, List.Perm.refl _, fun _ => rfl⟩
inductive Fu (z : Nat) : List Fl → List Fl → Prop
  | nil : Fu z [] []
  | snoc {P P' A A' : List Fl} : Fu z P P' → A.length = z → St A A' → Fu z (P ++ A) (P' ++ A')
inductive Bk (z : Nat) : List Fl → List Fl → Prop
  | cons {A A' R R' : List Fl} : A.length = z → St A A' → Bk z R R' → Bk z (A ++ R) (A' ++ R')
  | last {A A' : List Fl} : A.length ≤ z → St A A' → Bk z A A'
theorem Fu.close {z : Nat} {P P' : List Fl} (h : Fu z P P') : ∀ {T T' : List Fl}, Bk z T T' → Bk z (P ++ T) (P' ++ T') := by
  induction h with
  | nil => intro T T' h; exact h
  | snoc h1 h2 h3 ih =>
    intro T T' h
    rw [List.append_assoc, List.append_assoc]
    exact ih (Bk.cons h2 h3 h)
theorem Bk.len {z : Nat} {L L' : List Fl} (h : Bk z L L') : L'.length = L.length := by
  induction h with
  | cons h1 h2 h3 ih => rw [List.length_append, List.length_append, ih, h2.perm.length_eq]
  | last h1 h2 => exact h2.perm.length_eq
theorem Bk.perm {z : Nat} {L L' : List Fl} (h : Bk z L L') : L'.Perm L := by
  induction h with
  | cons h1 h2 h3 ih => exact h2.perm.append ih
  | last h1 h2 => exact h2.perm
theorem Fu.perm {z : Nat} {L L' : List Fl} (h : Fu z L L') : L'.Perm L := by
  induction h with
  | nil => exact List.Perm.refl _
  | snoc h1 h2 h3 ih => exact ih.append h3.perm
theorem Bk.split {z : Nat} {L L' : List Fl} (h : Bk z L L') (hz : z ≤ L.length) : ∃ A A' R R', L = A ++ R ∧ L' = A' ++ R' ∧ A.length = z ∧ St A A' ∧ Bk z R R' := by
  cases h with
  | cons h1 h2 h3 => exact ⟨_, _, _, _, rfl, rfl, h1, h2, h3⟩
  | last h1 h2 => exact ⟨L, L', [], [], by simp, by simp, by omega, h2, .last (by simp) St.nil⟩
theorem Bk.whole {z : Nat} {L L' : List Fl} (h : Bk z L L') (hz : L.length ≤ z) : St L L' := by
  cases h with
  | cons h1 h2 h3 =>
    rename_i A A' R R'
    rw [List.length_append] at hz
    have h4 := h3.len
    obtain rfl : R = [] := List.eq_nil_of_length_eq_zero (by omega)
    obtain rfl : R' = [] := List.eq_nil_of_length_eq_zero (by rw [h4]; rfl)
    simpa using h2
  | last h1 h2 => exact h2
def bucket (L : List Fl) (n : Nat) : List Fl := (List.range n).flatMap fun d => L.filter (isD (d : Nat))
theorem bucket_step {M : List Fl} (n : Nat) (hs : Srt M) : M.filter (fun x => decide (kd x < (n + 1 : Nat))) = M.filter (fun x => decide (kd x < (n : Nat))) ++ M.filter (isD (n : Nat)) := by
  induction M with
  | nil => rfl
  | cons x M ih =>
    have h1 := List.pairwise_cons.1 hs
    have h2 := ih h1.2
    by_cases e : kd x < (n : Nat)
    · have e1 : kd x < (n + 1 : Nat) := by omega
      have e2 : isD (n : Nat) x = false := by simp [isD]; omega
      rw [List.filter_cons, List.filter_cons, List.filter_cons, e2, if_pos (by simpa using e1), if_pos (by simpa using e), if_neg (by simp), h2, List.cons_append]
    · by_cases e3 : kd x = (n : Nat)
      · have e1 : kd x < (n + 1 : Nat) := by omega
        have e2 : isD (n : Nat) x = true := by simp [isD]; omega
        have e4 : M.filter (fun x => decide (kd x < (n : Nat))) = [] := by
          rw [List.filter_eq_nil_iff]
          intro y hy
          have := h1.1 y hy
          simp only[decide_eq_true_eq]; omega
        rw [e4, List.nil_append] at h2
        rw [List.filter_cons, List.filter_cons, List.filter_cons, e2, if_pos (by simpa using e1), if_neg (by simpa using e), if_pos rfl, h2, e4, List.nil_append]
      · have e1 : ¬kd x < (n + 1 : Nat) := by omega
        have e2 : isD (n : Nat) x = false := by simp [isD]; omega
        rw [List.filter_cons, List.filter_cons, List.filter_cons, e2, if_neg (by simpa using e1), if_neg (by simpa using e), if_neg (by simp), h2]
theorem bucket_of {L M : List Fl} (h : St L M) (n : Nat) (hk : ∀ x ∈ L, 0 ≤ kd x ∧ kd x < n) : M = bucket L n := by
  have key : ∀ n : Nat, M.filter (fun x => decide (kd x < (n : Nat))) = bucket M n := by
    intro n
    induction n with
    | zero =>
      unfold bucket
      rw [List.filter_eq_nil_iff.2]
      · rfl
      · intro x hx
        have := hk x (h.perm.mem_iff.1 hx)
        simp only[decide_eq_true_eq]; omega
    | succ n ih =>
      rw [bucket_step n h.srt, ih]
      unfold bucket
      rw [List.range_succ, List.flatMap_append, List.flatMap_cons, List.flatMap_nil, List.append_nil]
  have h1 : M.filter (fun x => decide (kd x < (n : Nat))) = M := by
    rw [List.filter_eq_self]
    intro x hx
    have := hk x (h.perm.mem_iff.1 hx)
    simp only[decide_eq_true_eq]; omega
  rw [← h1, key n]
  unfold bucket
  congr 1
  funext d
  exact h.fil d
end Go.Proofs.Ytpdajkbfemcdlaa
namespace Go.Proofs.Ytpdajkbfemcdlaa
open Go.Ge
def OkF (x : Fl) : Prop := 0 ≤ kd x ∧ kd x ≤ 100000
def CmpK (cf : Fl → Fl → Int) : Prop := ∀ x y, OkF x → OkF y → (cf x y < 0 ↔ kd x < kd y)
def MgQ (X A B Y : List Fl) (id : Nat) (rest : List AVal) (h : List HObj) (v : AVal) (h' : List HObj) : Prop := v = .tup [] ∧ ∃ M, Mg A B M ∧ h' = h.set id (.cells ((X ++ M ++ Y).flatMap flC ++ rest))
def SymT (N id cap a b c i e f : Nat) (L : List Fl) (rest : List AVal) (h : List HObj) (S : AState) : Prop := S.env 0 = .ref id 0 N cap ∧ S.env 1 = .int .i64 a ∧ S.env 3 = .int .i64 b ∧ S.env 4 = .func f [] ∧ S.env 18 = .int .i64 c ∧ S.env 20 = .int .i64 i ∧ S.env 24 = .int .i64 e ∧ S.heap = h.set id (.cells (L.flatMap flC ++ rest))
set_option maxHeartbeats 4000000 in
theorem symMergeS_ok (f : Nat) (cf : Fl → Fl → Int) (hf : CmpD f cf) (hcf : CmpK cf) (id cap N : Nat) (rest : List AVal) (hn : N ≤ 1099511627776) : ∀ (n : Nat) (a m b : Nat) (X A B Y : List Fl) (h : List HObj), b - a ≤ n → X.length = a → a + A.length = m → m + B.length = b → a < m → m < b → b + Y.length = N → Srt A → Srt B → (∀ x ∈ X ++ A ++ B ++ Y, OkF x) → h[id]? = some (.cells ((X ++ A ++ B ++ Y).flatMap flC ++ rest)) →
    ACalls Try.prog F.slices_symMergeCmpFunc_sent [.ref id 0 N cap, .int .i64 a, .int .i64 m, .int .i64 b, .func f []] h (MgQ X A B Y id rest h) := by
  intro n
  induction n with
  | zero => intro a m b X A B Y h h1 h2 h3; omega
  | succ n ih =>
  intro a m b X A B Y h hba hXa hAm hBb ham hmb hbN hsA hsB hok hid
  have hidl : id < h.length := (List.getElem?_eq_some_iff.1 hid).1
  have secA : Sec (X ++ A ++ B ++ Y) a m A := by have := Sec.of (R := B ++ Y) hXa hAm hsA; rwa [← List.append_assoc] at this
  have secB : Sec (X ++ A ++ B ++ Y) m b B := Sec.of (X := X ++ A) (by rw [List.length_append]; omega) hBb hsB
  have hL : (X ++ A ++ B ++ Y).length = N := by simp only[List.length_append]; omega
  have hLe := (rfl : X ++ A ++ B ++ Y = X ++ A ++ B ++ Y)
  generalize hLg : X ++ A ++ B ++ Y = L at secA secB hL hid hok
  clear hLe
  have hcmp : ∀ (p q : Nat) (hp : p < L.length) (hq : q < L.length), cf L[p] L[q] < 0 ↔ kat L p < kat L q := fun p q hp hq => by
    rw [kat_get hp, kat_get hq]; exact hcf _ _ (hok _ (List.getElem_mem hp)) (hok _ (List.getElem_mem hq))
  refine ACalls.of_aw Try.func217 K.slices_symMergeCmpFunc_sent (by simp [Try.f217]) ?_
  generalize hQ : retQ R.slices_symMergeCmpFunc_sent _ = Q
  simp (disch:=first|assumption|omega) only[C.slices_symMergeCmpFunc_sent,go_sem,↓reduceIte,Nat.reduceEqDiff,reduceIte]
  by_cases hm1 : m - a = 1
  · have hm1' : (m : Int) - a = 1 := by omega
    obtain ⟨x, rfl⟩ : ∃ x, A = [x] := List.length_eq_one_iff.1 (by omega)
    simp (disch:=first|assumption|omega) only[hm1',go_sem,↓reduceIte,Nat.reduceEqDiff,reduceIte]
    refine aw_count (fun d S => ∃ (i j : Nat), j - i = d ∧ m ≤ i ∧ i ≤ j ∧ j ≤ b ∧ (i = m ∨ kat L (i - 1) < kat L a) ∧ (j = b ∨ kat L a ≤ kat L j) ∧ S.env 10 = .int .i64 i ∧ S.env 11 = .int .i64 j ∧ S.env 0 = .ref id 0 N cap ∧ S.env 1 = .int .i64 a ∧ S.env 4 = .func f [] ∧ S.heap = h) (n := b - m)
      ⟨m, b, rfl, by omega, by omega, by omega, .inl rfl, .inl rfl, by simp (disch:=first|assumption|omega) only[go_sem,↓reduceIte,Nat.reduceEqDiff,reduceIte], by simp (disch:=first|assumption|omega) only[go_sem,↓reduceIte,reduceIte], by simp (disch:=first|assumption|omega) only[go_sem,↓reduceIte,reduceCtorEq,reduceIte], by simp (disch:=first|assumption|omega) only[go_sem,↓reduceIte,Nat.reduceEqDiff,reduceIte], by simp (disch:=first|assumption|omega) only[go_sem,↓reduceIte,Nat.reduceEqDiff,reduceIte], by simp (disch:=first|assumption|omega) only[go_sem]⟩ ?_
    rintro d S ⟨i, j, hd, hmi, hij, hjb, hlo, hhi, e10, e11, e0, e1, e4, eh⟩
    by_cases hlt : (i : Int) < j
    · have hh := half_sum (a := i) (b := j) (by omega)
      obtain ⟨c, hc⟩ : ∃ c, c = (i + j) / 2 := ⟨_, rfl⟩
      rw [← hc] at hh
      have hcl : c < L.length := by omega
      have hal : a < L.length := by omega
      have q1 := rowGet (rest := rest) hcl
      have q2 := rowGet (rest := rest) hal
      have hlen := rowLen L rest
      have hck := hcmp c a hcl hal
      simp (disch:=first|assumption|omega) only[e10,e11,e0,e1,e4,eh,hlt,hh,hid,q1,q2,hlen,flC_rdc,go_sem,↓reduceIte,Nat.reduceEqDiff,reduceCtorEq,Nat.reduceLeDiff,reduceIte,Int.reduceLE]
      refine ⟨by omega, by omega, by omega, by omega, ?_⟩
      refine callvqG_ok (hf L[c] L[a] _) (by simp (disch:=first|assumption|omega) only[go_sem]) ?_
      rintro _ _ ⟨rfl, hhh⟩
      rw [hhh]
      clear hhh
      refine ⟨rfl, ?_⟩
      by_cases hw : cf L[c] L[a] < 0
      · simp (disch:=first|assumption|omega) only[e11,e0,e1,e4,eh,hw,go_sem,↓reduceIte,Nat.reduceEqDiff,reduceCtorEq,reduceIte]
        exact ⟨j - (c + 1), by omega, c + 1, j, rfl, by omega, by omega, by omega, .inr (hck.1 hw), hhi, by simp, rfl⟩
      · simp (disch:=first|assumption|omega) only[e10,e0,e1,e4,eh,hw,go_sem,↓reduceIte,Nat.reduceEqDiff,reduceCtorEq,reduceIte]
        exact ⟨c - i, by omega, i, c, rfl, by omega, by omega, by omega, hlo, .inr (by have := mt hck.2 hw; omega), rfl, rfl⟩
    · simp (disch:=first|assumption|omega) only[e10,e11,e1,hlt,go_sem,↓reduceIte,Nat.reduceEqDiff,reduceIte]
      obtain rfl : i = j := by omega
      have hB := List.take_append_drop (i - m) B
      have hx : kat L a = kd x := secA.get 0 (by simp)
      have hg : Mg [x] B (B.take (i - m) ++ x :: B.drop (i - m)) := by
        have := Mg.left1 (x := x) (B1 := B.take (i - m)) (B2 := B.drop (i - m)) (by rw [hB]; exact hsB) (fun y hy => by
          obtain ⟨p, p1, p2, p3, p4⟩ := secB.take hy
          rcases hlo with rfl | hlo
          · omega
          · have := secB.mono (i := p) (j := i - 1) p1 (by omega) (by omega); omega) (fun y hy => by
          obtain ⟨p, p1, p2, p4⟩ := secB.drop hy
          rcases hhi with rfl | hhi
          · omega
          · have := secB.mono (i := i) (j := p) (by omega) (by omega) (by omega); omega)
        rwa [hB] at this
      have hid0 : h = h.set id (.cells ((X ++ x :: (B ++ Y)).flatMap flC ++ rest)) := by
        rw [show X ++ x :: (B ++ Y) = L by rw [← hLg]; simp, setH_same hid]
      refine aw_count (fun d S => ∃ (k : Nat), (i - 1) - k = d ∧ a ≤ k ∧ k < i ∧ S.env 13 = .int .i64 k ∧ S.env 10 = .int .i64 i ∧ S.env 0 = .ref id 0 N cap ∧ S.heap = h.set id (.cells ((X ++ B.take (k - a) ++ x :: (B.drop (k - a) ++ Y)).flatMap flC ++ rest))) (n := (i - 1) - a)
        ⟨a, rfl, by omega, by omega, by simp (disch:=first|assumption|omega) only[go_sem,↓reduceIte,reduceIte], by simp (disch:=first|assumption|omega) only[e10,go_sem,↓reduceIte,Nat.reduceEqDiff,reduceIte], by simp (disch:=first|assumption|omega) only[e0,go_sem,↓reduceIte,reduceCtorEq,reduceIte], by simp (disch:=first|assumption|omega) only[eh,go_sem]; exact hid0⟩ ?_
      clear e10 e11 e0 e1 e4 eh
      rintro d S ⟨k, hd, hak, hki, e13, e10, e0, eh⟩
      by_cases hlt2 : (k : Int) < i - 1
      · have hkB : k - a < B.length := by omega
        have hsh : X ++ B.take (k - a) ++ x :: (B.drop (k - a) ++ Y) = (X ++ B.take (k - a)) ++ x :: ([] ++ B[k - a] :: (B.drop (k - a + 1) ++ Y)) := by
          rw [List.drop_eq_getElem_cons hkB]; simp only[List.nil_append,List.cons_append]
        have hsn : X ++ B.take (k + 1 - a) ++ x :: (B.drop (k + 1 - a) ++ Y) = (X ++ B.take (k - a)) ++ B[k - a] :: ([] ++ x :: (B.drop (k - a + 1) ++ Y)) := by
          rw [show k + 1 - a = k - a + 1 by omega, List.take_add_one, List.getElem?_eq_getElem hkB]; simp only[List.append_assoc,List.cons_append,List.nil_append,Option.toList_some]
        have sw := swapT (U := X ++ B.take (k - a)) (V := []) (W := B.drop (k - a + 1) ++ Y) x B[k - a] rest (i := k) (j := k + 1) (by rw [List.length_append, List.length_take]; omega) (by rw [List.length_append, List.length_take]; simp only[List.length_nil]; omega)
        rw [hsh] at eh
        have hLl : ((X ++ B.take (k - a)) ++ x :: ([] ++ B[k - a] :: (B.drop (k - a + 1) ++ Y))).length = N := by rw [← hsh]; simp only[List.length_append,List.length_cons,List.length_take,List.length_drop]; omega
        generalize (X ++ B.take (k - a)) ++ x :: ([] ++ B[k - a] :: (B.drop (k - a + 1) ++ Y)) = L0 at *
        generalize (X ++ B.take (k - a)) ++ B[k - a] :: ([] ++ B[k - a] :: (B.drop (k - a + 1) ++ Y)) = L1 at *
        generalize (X ++ B.take (k - a)) ++ B[k - a] :: ([] ++ x :: (B.drop (k - a + 1) ++ Y)) = L2 at *
        obtain ⟨q1, q2, s1, s2, _, _, l1, l2, _⟩ := sw
        have hget : (h.set id (.cells (L0.flatMap flC ++ rest)))[id]? = some (.cells (L0.flatMap flC ++ rest)) := List.getElem?_set_self hidl
        have hget2 : (h.set id (.cells (L1.flatMap flC ++ rest)))[id]? = some (.cells (L1.flatMap flC ++ rest)) := List.getElem?_set_self hidl
        have hlen := rowLen L0 rest
        have hlen2 := rowLen L1 rest
        have k1 : (((k : Nat) : Int) + 1).toNat = k + 1 := by omega
        simp (disch:=first|assumption|omega) only[e13,e10,e0,eh,hlt2,hget,q1,q2,k1,hlen,flC_rdc,flC_all,flC_len,s1,s2,List.set_set,hget2,hlen2,l1,go_sem,↓reduceIte,Nat.reduceEqDiff,reduceCtorEq,Nat.reduceLeDiff,reduceIte]
        exact ⟨⟨by omega, by omega⟩, by omega, by omega, by omega, by omega, by omega, ⟨by omega, by omega⟩, by omega, d - 1, by omega, k + 1, by omega, by omega, by omega, by simp, by simpa only [List.append_assoc] using congrArg (fun L => h.set id (HObj.cells (L.flatMap flC ++ rest))) hsn.symm⟩
      · have hskip := True.intro
        simp (disch:=first|assumption|omega) only[e13,e10,hlt2,go_sem,↓reduceIte,Nat.reduceEqDiff,reduceIte]
        subst hQ
        simp (disch:=first|assumption|omega) only[R.slices_symMergeCmpFunc_sent,go_sem]
        obtain rfl : k = i - 1 := by omega
        refine ⟨rfl, _, hg, ?_⟩
        rw [show i - m = i - 1 - a by omega]
        first
          | exact eh.trans (by simp only[List.append_assoc,List.cons_append])
          | simp only[List.append_assoc,List.cons_append]
  · have hm1' : ¬ (m : Int) - a = 1 := by omega
    by_cases hb1 : b - m = 1
    · have hb1' : (b : Int) - m = 1 := by omega
      obtain ⟨y, rfl⟩ : ∃ x, B = [x] := List.length_eq_one_iff.1 (by omega)
      simp (disch:=first|assumption|omega) only[hm1',hb1',go_sem,↓reduceIte,Nat.reduceEqDiff,reduceIte]
      refine aw_count (fun d S => ∃ (i j : Nat), j - i = d ∧ a ≤ i ∧ i ≤ j ∧ j ≤ m ∧ (i = a ∨ kat L (i - 1) ≤ kat L m) ∧ (j = m ∨ kat L m < kat L j) ∧ S.env 14 = .int .i64 i ∧ S.env 15 = .int .i64 j ∧ S.env 0 = .ref id 0 N cap ∧ S.env 2 = .int .i64 m ∧ S.env 4 = .func f [] ∧ S.heap = h) (n := m - a)
        ⟨a, m, rfl, by omega, by omega, by omega, .inl rfl, .inl rfl, by simp (disch:=first|assumption|omega) only[go_sem,↓reduceIte,Nat.reduceEqDiff,reduceIte], by simp (disch:=first|assumption|omega) only[go_sem,↓reduceIte,reduceIte], by simp (disch:=first|assumption|omega) only[go_sem,↓reduceIte,reduceCtorEq,reduceIte], by simp (disch:=first|assumption|omega) only[go_sem,↓reduceIte,Nat.reduceEqDiff,reduceIte], by simp (disch:=first|assumption|omega) only[go_sem,↓reduceIte,Nat.reduceEqDiff,reduceIte], by simp (disch:=first|assumption|omega) only[go_sem]⟩ ?_
      rintro d S ⟨i, j, hd, hmi, hij, hjb, hlo, hhi, e14, e15, e0, e2, e4, eh⟩
      by_cases hlt : (i : Int) < j
      · have hh := half_sum (a := i) (b := j) (by omega)
        obtain ⟨c, hc⟩ : ∃ c, c = (i + j) / 2 := ⟨_, rfl⟩
        rw [← hc] at hh
        have hcl : c < L.length := by omega
        have hal : m < L.length := by omega
        have q1 := rowGet (rest := rest) hcl
        have q2 := rowGet (rest := rest) hal
        have hlen := rowLen L rest
        have hck := hcmp m c hal hcl
        simp (disch:=first|assumption|omega) only[e14,e15,e0,e2,e4,eh,hlt,hh,hid,q1,q2,hlen,flC_rdc,go_sem,↓reduceIte,Nat.reduceEqDiff,reduceCtorEq,Nat.reduceLeDiff,reduceIte,Int.reduceLE]
        refine ⟨by omega, by omega, by omega, by omega, ?_⟩
        refine callvqG_ok (hf L[m] L[c] _) (by simp (disch:=first|assumption|omega) only[go_sem]) ?_
        rintro _ _ ⟨rfl, hhh⟩
        rw [hhh]
        clear hhh
        refine ⟨rfl, ?_⟩
        by_cases hw : cf L[m] L[c] < 0
        · simp (disch:=first|assumption|omega) only[e14,e0,e2,e4,eh,hw,go_sem,↓reduceIte,Nat.reduceEqDiff,reduceCtorEq,reduceIte]
          exact ⟨c - i, by omega, i, c, rfl, by omega, by omega, by omega, hlo, .inr (hck.1 hw), rfl, rfl⟩
        · simp (disch:=first|assumption|omega) only[e15,e0,e2,e4,eh,hw,go_sem,↓reduceIte,Nat.reduceEqDiff,reduceCtorEq,reduceIte]
          exact ⟨j - (c + 1), by omega, c + 1, j, rfl, by omega, by omega, by omega, .inr (by have := mt hck.2 hw; simp only[Nat.add_sub_cancel]; omega), hhi, by simp, rfl⟩
      · simp (disch:=first|assumption|omega) only[e14,e15,e2,hlt,go_sem,↓reduceIte,Nat.reduceEqDiff,reduceIte]
        obtain rfl : i = j := by omega
        have hA := List.take_append_drop (i - a) A
        have hy : kat L m = kd y := secB.get 0 (by simp)
        have hg : Mg A [y] (A.take (i - a) ++ y :: A.drop (i - a)) := by
          have := Mg.right1 (y := y) (A1 := A.take (i - a)) (A2 := A.drop (i - a)) (by rw [hA]; exact hsA) (fun x hx => by
            obtain ⟨p, p1, p2, p3, p4⟩ := secA.take hx
            rcases hlo with rfl | hlo
            · omega
            · have := secA.mono (i := p) (j := i - 1) p1 (by omega) (by omega); omega) (fun x hx => by
            obtain ⟨p, p1, p2, p4⟩ := secA.drop hx
            rcases hhi with rfl | hhi
            · omega
            · have := secA.mono (i := i) (j := p) (by omega) (by omega) (by omega); omega)
          rwa [hA] at this
        have hid0 : h = h.set id (.cells ((X ++ (A.take (m - a) ++ y :: (A.drop (m - a) ++ Y))).flatMap flC ++ rest)) := by
          rw [← List.append_assoc, List.take_of_length_le (by omega), List.drop_of_length_le (by omega), List.nil_append, show X ++ A ++ y :: Y = L by rw [← hLg]; simp, setH_same hid]
        refine aw_count (fun d S => ∃ (k : Nat), k - i = d ∧ i ≤ k ∧ k ≤ m ∧ S.env 17 = .int .i64 k ∧ S.env 14 = .int .i64 i ∧ S.env 0 = .ref id 0 N cap ∧ S.heap = h.set id (.cells ((X ++ A.take (k - a) ++ y :: (A.drop (k - a) ++ Y)).flatMap flC ++ rest))) (n := m - i)
          ⟨m, rfl, by omega, by omega, by simp (disch:=first|assumption|omega) only[go_sem,↓reduceIte,reduceIte], by simp (disch:=first|assumption|omega) only[e14,go_sem,↓reduceIte,Nat.reduceEqDiff,reduceIte], by simp (disch:=first|assumption|omega) only[e0,go_sem,↓reduceIte,reduceCtorEq,reduceIte], by simp (disch:=first|assumption|omega) only[eh,go_sem]; exact hid0⟩ ?_
        clear e14 e15 e0 e2 e4 eh
        rintro d S ⟨k, hd, hak, hki, e17, e14, e0, eh⟩
        by_cases hlt2 : (i : Int) < k
        · have hkA : k - a - 1 < A.length := by omega
          have hsh : X ++ A.take (k - a) ++ y :: (A.drop (k - a) ++ Y) = (X ++ A.take (k - a - 1)) ++ A[k - a - 1] :: ([] ++ y :: (A.drop (k - a) ++ Y)) := by
            conv => lhs; rw [show k - a = k - a - 1 + 1 by omega, List.take_add_one, List.getElem?_eq_getElem hkA, show k - a - 1 + 1 = k - a by omega]
            simp only[List.append_assoc,List.cons_append,List.nil_append,Option.toList_some]
          have hsn : X ++ A.take (k - 1 - a) ++ y :: (A.drop (k - 1 - a) ++ Y) = (X ++ A.take (k - a - 1)) ++ y :: ([] ++ A[k - a - 1] :: (A.drop (k - a) ++ Y)) := by
            rw [show k - 1 - a = k - a - 1 by omega, List.drop_eq_getElem_cons hkA, show k - a - 1 + 1 = k - a by omega]; simp only[List.append_assoc,List.cons_append,List.nil_append]
          have sw := swapT (U := X ++ A.take (k - a - 1)) (V := []) (W := A.drop (k - a) ++ Y) A[k - a - 1] y rest (i := k - 1) (j := k) (by rw [List.length_append, List.length_take]; omega) (by rw [List.length_append, List.length_take]; simp only[List.length_nil]; omega)
          rw [hsh] at eh
          have hLl : ((X ++ A.take (k - a - 1)) ++ A[k - a - 1] :: ([] ++ y :: (A.drop (k - a) ++ Y))).length = N := by rw [← hsh]; simp only[List.length_append,List.length_cons,List.length_take,List.length_drop]; omega
          generalize (X ++ A.take (k - a - 1)) ++ A[k - a - 1] :: ([] ++ y :: (A.drop (k - a) ++ Y)) = L0 at *
          generalize (X ++ A.take (k - a - 1)) ++ A[k - a - 1] :: ([] ++ A[k - a - 1] :: (A.drop (k - a) ++ Y)) = M1 at *
          generalize (X ++ A.take (k - a - 1)) ++ y :: ([] ++ A[k - a - 1] :: (A.drop (k - a) ++ Y)) = L2 at *
          obtain ⟨q1, q2, _, _, t1, t2, _, l2, m1⟩ := sw
          have hget : (h.set id (.cells (L0.flatMap flC ++ rest)))[id]? = some (.cells (L0.flatMap flC ++ rest)) := List.getElem?_set_self hidl
          have hget2 : (h.set id (.cells (M1.flatMap flC ++ rest)))[id]? = some (.cells (M1.flatMap flC ++ rest)) := List.getElem?_set_self hidl
          have hlen := rowLen L0 rest
          have hlen2 := rowLen M1 rest
          have k1 : (((k : Nat) : Int) - 1).toNat = k - 1 := by omega
          simp (disch:=first|assumption|omega) only[e17,e14,e0,eh,hlt2,hget,q1,q2,k1,hlen,flC_rdc,flC_all,flC_len,t1,t2,List.set_set,hget2,hlen2,m1,go_sem,↓reduceIte,Nat.reduceEqDiff,reduceCtorEq,Nat.reduceLeDiff,reduceIte]
          exact ⟨⟨by omega, by omega⟩, by omega, by omega, by omega, by omega, by omega, ⟨by omega, by omega⟩, by omega, d - 1, by omega, k - 1, by omega, by omega, by omega, by congr 1; omega, by simpa only [List.append_assoc] using congrArg (fun L => h.set id (HObj.cells (L.flatMap flC ++ rest))) hsn.symm⟩
        · have hskip := True.intro
          simp (disch:=first|assumption|omega) only[e17,e14,hlt2,go_sem,↓reduceIte,Nat.reduceEqDiff,reduceIte]
          subst hQ
          simp (disch:=first|assumption|omega) only[R.slices_symMergeCmpFunc_sent,go_sem]
          obtain rfl : k = i := by omega
          refine ⟨rfl, _, hg, ?_⟩
          first
            | exact eh.trans (by simp only[List.append_assoc,List.cons_append])
            | simp only[List.append_assoc,List.cons_append]
    · have hb1' : ¬ (b : Int) - m = 1 := by omega
      have hh := half_sum (a := a) (b := b) (by omega)
      obtain ⟨c, hc⟩ : ∃ c, c = (a + b) / 2 := ⟨_, rfl⟩
      rw [← hc] at hh
      by_cases hcm : c < m
      · have hcm' : (c : Int) < m := by omega
        have hxs : (c : Int) + m - b = ((c + m - b : Nat) : Int) := by omega
        simp (disch:=first|assumption|omega) only[hm1',hb1',hh,hcm',go_sem,↓reduceIte,Nat.reduceEqDiff,reduceIte,Int.reduceLE]
        refine aw_count (fun d S => ∃ (i j : Nat), j - i = d ∧ c + m - b ≤ i ∧ i ≤ j ∧ j ≤ c ∧ (i = c + m - b ∨ kat L (i - 1) ≤ kat L (c + m - i)) ∧ (j = c ∨ kat L (c + m - 1 - j) < kat L j) ∧ S.env 20 = .int .i64 i ∧ S.env 21 = .int .i64 j ∧ S.env 22 = .int .i64 (c + m - 1) ∧ S.env 0 = .ref id 0 N cap ∧ S.env 1 = .int .i64 a ∧ S.env 2 = .int .i64 m ∧ S.env 3 = .int .i64 b ∧ S.env 4 = .func f [] ∧ S.env 18 = .int .i64 c ∧ S.env 19 = .int .i64 (c + m) ∧ S.heap = h) (n := c - (c + m - b))
          ⟨c + m - b, c, rfl, by omega, by omega, by omega, .inl rfl, .inl rfl, by simp (disch:=first|assumption|omega) only[hxs,go_sem,↓reduceIte,Nat.reduceEqDiff,reduceIte]; try (congr 1; omega), by simp (disch:=first|assumption|omega) only[go_sem,↓reduceIte,Nat.reduceEqDiff,reduceIte], by simp (disch:=first|assumption|omega) only[go_sem,↓reduceIte,reduceIte], by simp (disch:=first|assumption|omega) only[go_sem,↓reduceIte,reduceCtorEq,reduceIte], by simp (disch:=first|assumption|omega) only[go_sem,↓reduceIte,Nat.reduceEqDiff,reduceIte], by simp (disch:=first|assumption|omega) only[go_sem,↓reduceIte,Nat.reduceEqDiff,reduceIte], by simp (disch:=first|assumption|omega) only[go_sem,↓reduceIte,Nat.reduceEqDiff,reduceIte], by simp (disch:=first|assumption|omega) only[go_sem,↓reduceIte,Nat.reduceEqDiff,reduceIte], by simp (disch:=first|assumption|omega) only[go_sem,↓reduceIte,Nat.reduceEqDiff,reduceIte], by simp (disch:=first|assumption|omega) only[go_sem,↓reduceIte,Nat.reduceEqDiff,reduceIte], by simp (disch:=first|assumption|omega) only[go_sem]⟩ ?_
        rintro d S ⟨i, j, hd, hmi, hij, hjb, hlo, hhi, e20, e21, e22, e0, e1, e2, e3, e4, e18, e19, eh⟩
        by_cases hlt : (i : Int) < j
        · have hh2 := half_sum (a := i) (b := j) (by omega)
          obtain ⟨q, hq⟩ : ∃ q, q = (i + j) / 2 := ⟨_, rfl⟩
          rw [← hq] at hh2
          have hpq : c + m - 1 - q < L.length := by omega
          have hql : q < L.length := by omega
          have q1 := rowGet (rest := rest) hpq
          have q2 := rowGet (rest := rest) hql
          have hlen := rowLen L rest
          have k1 : ((c : Int) + m - 1 - q).toNat = c + m - 1 - q := by omega
          have hck := hcmp (c + m - 1 - q) q hpq hql
          simp (disch:=first|assumption|omega) only[e20,e21,e22,e0,e4,eh,hlt,hh2,hid,q1,q2,hlen,flC_rdc,k1,go_sem,↓reduceIte,Nat.reduceEqDiff,reduceCtorEq,Nat.reduceLeDiff,reduceIte,Int.reduceLE]
          refine ⟨⟨by omega, by omega⟩, by omega, by omega, by omega, ?_⟩
          refine callvqG_ok (hf L[c + m - 1 - q] L[q] _) (by simp (disch:=first|assumption|omega) only[go_sem]) ?_
          rintro _ _ ⟨rfl, hhh⟩
          rw [hhh]
          clear hhh
          refine ⟨rfl, ?_⟩
          by_cases hw : cf L[c + m - 1 - q] L[q] < 0
          · simp (disch:=first|assumption|omega) only[e20,e22,e0,e1,e2,e3,e4,e18,e19,eh,hw,go_sem,↓reduceIte,Nat.reduceEqDiff,reduceCtorEq,reduceIte]
            exact ⟨q - i, by omega, i, q, rfl, by omega, by omega, by omega, hlo, .inr (hck.1 hw), rfl, rfl⟩
          · simp (disch:=first|assumption|omega) only[e21,e22,e0,e1,e2,e3,e4,e18,e19,eh,hw,go_sem,↓reduceIte,Nat.reduceEqDiff,reduceCtorEq,reduceIte]
            exact ⟨j - (q + 1), by omega, q + 1, j, rfl, by omega, by omega, by omega, .inr (by have := mt hck.2 hw; rw [show c + m - (q + 1) = c + m - 1 - q by omega]; simp only[Nat.add_sub_cancel]; omega), hhi, by simp, rfl⟩
        · simp (disch:=first|assumption|omega) only[e20,e21,e2,e19,hlt,go_sem,↓reduceIte,Nat.reduceEqDiff,reduceIte]
          obtain rfl : i = j := by omega
          obtain ⟨e, he⟩ : ∃ e, e = c + m - i := ⟨_, rfl⟩
          have hec : (c : Int) + m - i = e := by omega
          rw [show c + m - 1 - i = e - 1 by omega] at hhi
          rw [← he] at hlo
          have bai : a ≤ i := by omega
          have bim : i ≤ m := by omega
          have bme : m ≤ e := by omega
          have beb : e ≤ b := by omega
          have bic : i ≤ c := by omega
          have bce : c ≤ e := by omega
          have hA := List.take_append_drop (i - a) A
          have hB := List.take_append_drop (e - m) B
          have h1 : ∀ x ∈ A.take (i - a), ∀ y ∈ B.drop (e - m), kd x ≤ kd y := by
            intro x hx y hy
            obtain ⟨p, p1, p2, p3, p4⟩ := secA.take hx
            obtain ⟨q, q1, q2, q3⟩ := secB.drop hy
            have h3 : kat L (i - 1) ≤ kat L e := hlo.resolve_left (by omega)
            have h4 := secA.mono (i := p) (j := i - 1) p1 (by omega) (by omega)
            have h5 := secB.mono (i := e) (j := q) (by omega) (by omega) (by omega)
            omega
          have h2 : ∀ y ∈ B.take (e - m), ∀ x ∈ A.drop (i - a), kd y < kd x := by
            intro y hy x hx
            obtain ⟨q, q1, q2, q3, q4⟩ := secB.take hy
            obtain ⟨p, p1, p2, p3⟩ := secA.drop hx
            have h3 : kat L (e - 1) < kat L i := hhi.resolve_left (by omega)
            have h4 := secA.mono (i := i) (j := p) (by omega) (by omega) (by omega)
            have h5 := secB.mono (i := q) (j := e - 1) (by omega) (by omega) (by omega)
            omega
          have la1 : (A.take (i - a)).length = i - a := by rw [List.length_take]; omega
          have la2 : (A.drop (i - a)).length = m - i := by rw [List.length_drop]; omega
          have lb1 : (B.take (e - m)).length = e - m := by rw [List.length_take]; omega
          have lb2 : (B.drop (e - m)).length = b - e := by rw [List.length_drop]; omega
          have hjoin := fun M1 M2 => Mg.join (M1 := M1) (M2 := M2) (by rw [hA]; exact hsA) (by rw [hB]; exact hsB) h1 h2
          rw [hA, hB] at hjoin
          have sA : Srt (A.take (i - a) ++ A.drop (i - a)) := by rw [hA]; exact hsA
          have sB : Srt (B.take (e - m) ++ B.drop (e - m)) := by rw [hB]; exact hsB
          have hLs : L = (X ++ A.take (i - a)) ++ A.drop (i - a) ++ B.take (e - m) ++ (B.drop (e - m) ++ Y) := by
            rw [← hLg]; conv => lhs; rw [← hA, ← hB]
            simp only[List.append_assoc]
          clear h1 h2 hA hB hlo hhi secA secB hcmp
          generalize A.take (i - a) = A1 at *
          generalize A.drop (i - a) = A2 at *
          generalize B.take (e - m) = B1 at *
          generalize B.drop (e - m) = B2 at *
          have hokR : ∀ L' : List Fl, L'.Perm L → ∀ x ∈ L', OkF x := fun L' hp x hx => hok x (hp.mem_iff.1 hx)
          have pR : ((X ++ A1) ++ B1 ++ A2 ++ (B2 ++ Y)).Perm L := by
            rw [hLs]
            simp only[List.append_assoc]
            refine List.Perm.append_left _ (List.Perm.append_left _ ?_)
            rw [← List.append_assoc B1, ← List.append_assoc A2]
            exact List.Perm.append_right _ List.perm_append_comm
          have hLR : A2 = [] ∨ B1 = [] → L = (X ++ A1) ++ B1 ++ A2 ++ (B2 ++ Y) := by
            rintro (rfl | rfl) <;> (rw [hLs]; simp)
          obtain ⟨L2, hL2⟩ : ∃ L2, L2 = (X ++ A1) ++ B1 ++ A2 ++ (B2 ++ Y) := ⟨_, rfl⟩
          rw [← hL2] at pR hLR
          have rot : ∀ H, H = h → i < m → m < e → ACalls Try.prog F.slices_rotateCmpFunc_sent [.ref id 0 N cap, .int .i64 i, .int .i64 m, .int .i64 e, .func f []] H (fun v h' => v = .tup [] ∧ h' = h.set id (.cells (L2.flatMap flC ++ rest))) := by
            rintro _ rfl g1 g2
            rw [hL2]
            exact rotateT_ok f (X ++ A1) A2 B1 (B2 ++ Y) N (by rw [← hLs]; exact hL) id cap i m e (by rw [List.length_append]; omega) (by rw [List.length_append]; omega) (by omega) rest _ (by rw [← hLs]; exact hid) g1 g2 hn
          have mg1 : ∀ H, H = h.set id (.cells (L2.flatMap flC ++ rest)) → a < i → i < c → ACalls Try.prog F.slices_symMergeCmpFunc_sent [.ref id 0 N cap, .int .i64 a, .int .i64 i, .int .i64 c, .func f []] H (fun v h' => v = .tup [] ∧ ∃ M1 L3, Mg A1 B1 M1 ∧ L3 = X ++ (M1 ++ (A2 ++ (B2 ++ Y))) ∧ h' = h.set id (.cells (L3.flatMap flC ++ rest))) := by
            rintro _ rfl g1 g2
            have eqL : X ++ A1 ++ B1 ++ (A2 ++ (B2 ++ Y)) = L2 := by rw [hL2]; simp only[List.append_assoc]
            refine ACalls.mono (ih a i c X A1 B1 (A2 ++ (B2 ++ Y)) _ (by omega) hXa (by omega) (by omega) g1 g2 (by simp only[List.length_append]; omega) sA.left sB.left (hokR _ (by rw [eqL]; exact pR)) (by rw [eqL]; exact List.getElem?_set_self hidl)) ?_
            rintro v h' ⟨e1, M1, e2, e3⟩
            exact ⟨e1, M1, _, e2, rfl, by rw [e3, List.set_set]; simp only[List.append_assoc]⟩
          have mg2 : ∀ (H : List HObj) (M1 L3 : List Fl), Mg A1 B1 M1 → L3 = X ++ (M1 ++ (A2 ++ (B2 ++ Y))) → H = h.set id (.cells (L3.flatMap flC ++ rest)) → c < e → e < b → ACalls Try.prog F.slices_symMergeCmpFunc_sent [.ref id 0 N cap, .int .i64 c, .int .i64 e, .int .i64 b, .func f []] H (fun v h' => v = .tup [] ∧ ∃ M, Mg A B M ∧ h' = h.set id (.cells ((X ++ M ++ Y).flatMap flC ++ rest))) := by
            rintro _ M1 L3 hM1 rfl rfl g1 g2
            have lm1 := hM1.len
            have eqM : X ++ (M1 ++ (A2 ++ (B2 ++ Y))) = (X ++ M1) ++ A2 ++ B2 ++ Y := by simp only[List.append_assoc]
            have pM : ((X ++ M1) ++ A2 ++ B2 ++ Y).Perm L := by
              refine List.Perm.trans ?_ pR
              rw [hL2]
              simp only[List.append_assoc]
              refine List.Perm.append_left _ ?_
              rw [← List.append_assoc A1]
              exact List.Perm.append_right _ hM1.perm
            refine ACalls.mono (ih c e b (X ++ M1) A2 B2 Y _ (by omega) (by rw [List.length_append]; omega) (by omega) (by omega) g1 g2 hbN sA.right sB.right (hokR _ pM) (by rw [← eqM]; exact List.getElem?_set_self hidl)) ?_
            rintro v h' ⟨e1, M2, e2, e3⟩
            exact ⟨e1, M1 ++ M2, hjoin M1 M2 hM1 e2, by rw [e3, List.set_set]; simp only[List.append_assoc]⟩
          have fin : ∀ (M1 L3 : List Fl), Mg A1 B1 M1 → L3 = X ++ (M1 ++ (A2 ++ (B2 ++ Y))) → A2 = [] ∨ B2 = [] → ∃ M, Mg A B M ∧ L3 = X ++ M ++ Y := by
            rintro M1 L3 hM1 rfl (h0 | h0)
            · refine ⟨M1 ++ B2, hjoin M1 B2 hM1 ?_, by rw [h0]; simp⟩
              rw [h0]; exact Mg.nilL sB.right
            · refine ⟨M1 ++ A2, hjoin M1 A2 hM1 ?_, by rw [h0]; simp⟩
              rw [h0]; exact Mg.nilR sA.right
          have ini : A1 = [] ∨ B1 = [] → ∃ M1, Mg A1 B1 M1 ∧ L2 = X ++ (M1 ++ (A2 ++ (B2 ++ Y))) := by
            rintro (h0 | h0)
            · exact ⟨B1, by rw [h0]; exact Mg.nilL sB.left, by rw [hL2, h0]; simp⟩
            · exact ⟨A1, by rw [h0]; exact Mg.nilR sA.left, by rw [hL2, h0]; simp⟩
          refine aopsG_cut (SymT N id cap a b c i e f L2 rest h) ?_ ?_
          · by_cases g1 : i < m
            · by_cases g2 : m < e
              · simp (disch:=first|assumption|omega) only[e20,e0,e2,e4,g1,g2,hec,go_sem,↓reduceIte,Nat.reduceEqDiff,reduceCtorEq,reduceIte]
                refine callG_ok (rot _ (by simp (disch:=first|assumption|omega) only[eh,go_sem]) g1 g2) (by simp (disch:=first|assumption|omega) only[go_sem]) ?_
                rintro _ _ ⟨rfl, hhh⟩
                rw [hhh]
                clear hhh
                simp (disch:=first|assumption|omega) only[go_sem]
                exact ⟨e0, e1, e3, e4, e18, e20, rfl, rfl⟩
              · simp (disch:=first|assumption|omega) only[e2,g1,g2,hec,go_sem,↓reduceIte,Nat.reduceEqDiff,reduceIte]
                exact ⟨e0, e1, e3, e4, e18, e20, rfl, by rw [← hLR (.inr (List.eq_nil_of_length_eq_zero (by omega))), setH_same hid]; first | exact eh | rfl⟩
            · simp (disch:=first|assumption|omega) only[g1,hec,go_sem,↓reduceIte,Nat.reduceEqDiff,reduceIte]
              exact ⟨e0, e1, e3, e4, e18, e20, rfl, by rw [← hLR (.inl (List.eq_nil_of_length_eq_zero (by omega))), setH_same hid]; first | exact eh | rfl⟩
          · clear e20 e21 e22 e0 e1 e2 e3 e4 e18 e19 eh
            rintro S ⟨e0, e1, e3, e4, e18, e20, e24, eh⟩
            simp (disch:=first|assumption|omega) only[e1,e20,go_sem,↓reduceIte,Nat.reduceEqDiff,reduceIte]
            refine aopsG_cut (fun S => ∃ M1 L3, Mg A1 B1 M1 ∧ L3 = X ++ (M1 ++ (A2 ++ (B2 ++ Y))) ∧ SymT N id cap a b c i e f L3 rest h S) ?_ ?_
            · by_cases g1 : a < i
              · by_cases g2 : i < c
                · simp (disch:=first|assumption|omega) only[e0,e1,e4,e18,e20,g1,g2,go_sem,↓reduceIte,Nat.reduceEqDiff,reduceCtorEq,reduceIte]
                  refine callG_ok (mg1 _ (by simp (disch:=first|assumption|omega) only[eh,go_sem]) g1 g2) (by simp (disch:=first|assumption|omega) only[go_sem]) ?_
                  rintro _ _ ⟨rfl, M1, L3, hM1, hL3, hhh⟩
                  rw [hhh]
                  clear hhh
                  simp (disch:=first|assumption|omega) only[go_sem]
                  exact ⟨M1, L3, hM1, hL3, e0, e1, e3, e4, e18, e20, e24, rfl⟩
                · simp (disch:=first|assumption|omega) only[e18,e20,g1,g2,go_sem,↓reduceIte,Nat.reduceEqDiff,reduceIte]
                  obtain ⟨M1, hM1, hL3⟩ := ini (.inr (List.eq_nil_of_length_eq_zero (by omega)))
                  exact ⟨M1, L2, hM1, hL3, e0, e1, e3, e4, e18, e20, e24, eh⟩
              · simp (disch:=first|assumption|omega) only[g1,go_sem,↓reduceIte,Nat.reduceEqDiff,reduceIte]
                obtain ⟨M1, hM1, hL3⟩ := ini (.inl (List.eq_nil_of_length_eq_zero (by omega)))
                exact ⟨M1, L2, hM1, hL3, e0, e1, e3, e4, e18, e20, e24, eh⟩
            · clear e0 e1 e3 e4 e18 e20 e24 eh
              rintro S ⟨M1, L3, hM1, hL3, e0, e1, e3, e4, e18, e20, e24, eh⟩
              by_cases g1 : c < e
              · by_cases g2 : e < b
                · simp (disch:=first|assumption|omega) only[e0,e3,e4,e18,e24,g1,g2,go_sem,↓reduceIte,Nat.reduceEqDiff,reduceCtorEq,reduceIte]
                  refine callG_ok (mg2 _ M1 L3 hM1 hL3 (by simp (disch:=first|assumption|omega) only[eh,go_sem]) g1 g2) (by simp (disch:=first|assumption|omega) only[go_sem]) ?_
                  rintro _ _ ⟨rfl, M, hM, hhh⟩
                  rw [hhh]
                  clear hhh
                  simp (disch:=first|assumption|omega) only[go_sem]
                  subst hQ
                  simp (disch:=first|assumption|omega) only[R.slices_symMergeCmpFunc_sent,go_sem]
                  exact ⟨rfl, M, hM, by simp only[List.append_assoc]⟩
                · simp (disch:=first|assumption|omega) only[e3,e18,e24,g1,g2,go_sem,↓reduceIte,Nat.reduceEqDiff,reduceIte]
                  subst hQ
                  simp (disch:=first|assumption|omega) only[R.slices_symMergeCmpFunc_sent,go_sem]
                  obtain ⟨M, hM, rfl⟩ := fin M1 L3 hM1 hL3 (.inr (List.eq_nil_of_length_eq_zero (by omega)))
                  exact ⟨rfl, M, hM, by first | rfl | exact eh⟩
              · simp (disch:=first|assumption|omega) only[e18,e24,g1,go_sem,↓reduceIte,Nat.reduceEqDiff,reduceIte]
                subst hQ
                obtain ⟨M, hM, rfl⟩ := fin M1 L3 hM1 hL3 (.inl (List.eq_nil_of_length_eq_zero (by omega)))
                exact ⟨(fun r hr => by cases hr), rfl, M, hM, eh⟩
      · have hcm' : ¬ (c : Int) < m := by omega
        have hxs : True := trivial
        simp (disch:=first|assumption|omega) only[hm1',hb1',hh,hcm',go_sem,↓reduceIte,Nat.reduceEqDiff,reduceIte,Int.reduceLE]
        refine aw_count (fun d S => ∃ (i j : Nat), j - i = d ∧ a ≤ i ∧ i ≤ j ∧ j ≤ m ∧ (i = a ∨ kat L (i - 1) ≤ kat L (c + m - i)) ∧ (j = m ∨ kat L (c + m - 1 - j) < kat L j) ∧ S.env 20 = .int .i64 i ∧ S.env 21 = .int .i64 j ∧ S.env 22 = .int .i64 (c + m - 1) ∧ S.env 0 = .ref id 0 N cap ∧ S.env 1 = .int .i64 a ∧ S.env 2 = .int .i64 m ∧ S.env 3 = .int .i64 b ∧ S.env 4 = .func f [] ∧ S.env 18 = .int .i64 c ∧ S.env 19 = .int .i64 (c + m) ∧ S.heap = h) (n := m - (a))
          ⟨a, m, rfl, by omega, by omega, by omega, .inl rfl, .inl rfl, by simp (disch:=first|assumption|omega) only[go_sem,↓reduceIte,Nat.reduceEqDiff,reduceIte]; try (congr 1; omega), by simp (disch:=first|assumption|omega) only[go_sem,↓reduceIte,Nat.reduceEqDiff,reduceIte], by simp (disch:=first|assumption|omega) only[go_sem,↓reduceIte,reduceIte], by simp (disch:=first|assumption|omega) only[go_sem,↓reduceIte,reduceCtorEq,reduceIte], by simp (disch:=first|assumption|omega) only[go_sem,↓reduceIte,Nat.reduceEqDiff,reduceIte], by simp (disch:=first|assumption|omega) only[go_sem,↓reduceIte,Nat.reduceEqDiff,reduceIte], by simp (disch:=first|assumption|omega) only[go_sem,↓reduceIte,Nat.reduceEqDiff,reduceIte], by simp (disch:=first|assumption|omega) only[go_sem,↓reduceIte,Nat.reduceEqDiff,reduceIte], by simp (disch:=first|assumption|omega) only[go_sem,↓reduceIte,Nat.reduceEqDiff,reduceIte], by simp (disch:=first|assumption|omega) only[go_sem,↓reduceIte,Nat.reduceEqDiff,reduceIte], by simp (disch:=first|assumption|omega) only[go_sem]⟩ ?_
        rintro d S ⟨i, j, hd, hmi, hij, hjb, hlo, hhi, e20, e21, e22, e0, e1, e2, e3, e4, e18, e19, eh⟩
        by_cases hlt : (i : Int) < j
        · have hh2 := half_sum (a := i) (b := j) (by omega)
          obtain ⟨q, hq⟩ : ∃ q, q = (i + j) / 2 := ⟨_, rfl⟩
          rw [← hq] at hh2
          have hpq : c + m - 1 - q < L.length := by omega
          have hql : q < L.length := by omega
          have q1 := rowGet (rest := rest) hpq
          have q2 := rowGet (rest := rest) hql
          have hlen := rowLen L rest
          have k1 : ((c : Int) + m - 1 - q).toNat = c + m - 1 - q := by omega
          have hck := hcmp (c + m - 1 - q) q hpq hql
          simp (disch:=first|assumption|omega) only[e20,e21,e22,e0,e4,eh,hlt,hh2,hid,q1,q2,hlen,flC_rdc,k1,go_sem,↓reduceIte,Nat.reduceEqDiff,reduceCtorEq,Nat.reduceLeDiff,reduceIte,Int.reduceLE]
          refine ⟨⟨by omega, by omega⟩, by omega, by omega, by omega, ?_⟩
          refine callvqG_ok (hf L[c + m - 1 - q] L[q] _) (by simp (disch:=first|assumption|omega) only[go_sem]) ?_
          rintro _ _ ⟨rfl, hhh⟩
          rw [hhh]
          clear hhh
          refine ⟨rfl, ?_⟩
          by_cases hw : cf L[c + m - 1 - q] L[q] < 0
          · simp (disch:=first|assumption|omega) only[e20,e22,e0,e1,e2,e3,e4,e18,e19,eh,hw,go_sem,↓reduceIte,Nat.reduceEqDiff,reduceCtorEq,reduceIte]
            exact ⟨q - i, by omega, i, q, rfl, by omega, by omega, by omega, hlo, .inr (hck.1 hw), rfl, rfl⟩
          · simp (disch:=first|assumption|omega) only[e21,e22,e0,e1,e2,e3,e4,e18,e19,eh,hw,go_sem,↓reduceIte,Nat.reduceEqDiff,reduceCtorEq,reduceIte]
            exact ⟨j - (q + 1), by omega, q + 1, j, rfl, by omega, by omega, by omega, .inr (by have := mt hck.2 hw; rw [show c + m - (q + 1) = c + m - 1 - q by omega]; simp only[Nat.add_sub_cancel]; omega), hhi, by simp, rfl⟩
        · simp (disch:=first|assumption|omega) only[e20,e21,e2,e19,hlt,go_sem,↓reduceIte,Nat.reduceEqDiff,reduceIte]
          obtain rfl : i = j := by omega
          obtain ⟨e, he⟩ : ∃ e, e = c + m - i := ⟨_, rfl⟩
          have hec : (c : Int) + m - i = e := by omega
          rw [show c + m - 1 - i = e - 1 by omega] at hhi
          rw [← he] at hlo
          have bai : a ≤ i := by omega
          have bim : i ≤ m := by omega
          have bme : m ≤ e := by omega
          have beb : e ≤ b := by omega
          have bic : i ≤ c := by omega
          have bce : c ≤ e := by omega
          have hA := List.take_append_drop (i - a) A
          have hB := List.take_append_drop (e - m) B
          have h1 : ∀ x ∈ A.take (i - a), ∀ y ∈ B.drop (e - m), kd x ≤ kd y := by
            intro x hx y hy
            obtain ⟨p, p1, p2, p3, p4⟩ := secA.take hx
            obtain ⟨q, q1, q2, q3⟩ := secB.drop hy
            have h3 : kat L (i - 1) ≤ kat L e := hlo.resolve_left (by omega)
            have h4 := secA.mono (i := p) (j := i - 1) p1 (by omega) (by omega)
            have h5 := secB.mono (i := e) (j := q) (by omega) (by omega) (by omega)
            omega
          have h2 : ∀ y ∈ B.take (e - m), ∀ x ∈ A.drop (i - a), kd y < kd x := by
            intro y hy x hx
            obtain ⟨q, q1, q2, q3, q4⟩ := secB.take hy
            obtain ⟨p, p1, p2, p3⟩ := secA.drop hx
            have h3 : kat L (e - 1) < kat L i := hhi.resolve_left (by omega)
            have h4 := secA.mono (i := i) (j := p) (by omega) (by omega) (by omega)
            have h5 := secB.mono (i := q) (j := e - 1) (by omega) (by omega) (by omega)
            omega
          have la1 : (A.take (i - a)).length = i - a := by rw [List.length_take]; omega
          have la2 : (A.drop (i - a)).length = m - i := by rw [List.length_drop]; omega
          have lb1 : (B.take (e - m)).length = e - m := by rw [List.length_take]; omega
          have lb2 : (B.drop (e - m)).length = b - e := by rw [List.length_drop]; omega
          have hjoin := fun M1 M2 => Mg.join (M1 := M1) (M2 := M2) (by rw [hA]; exact hsA) (by rw [hB]; exact hsB) h1 h2
          rw [hA, hB] at hjoin
          have sA : Srt (A.take (i - a) ++ A.drop (i - a)) := by rw [hA]; exact hsA
          have sB : Srt (B.take (e - m) ++ B.drop (e - m)) := by rw [hB]; exact hsB
          have hLs : L = (X ++ A.take (i - a)) ++ A.drop (i - a) ++ B.take (e - m) ++ (B.drop (e - m) ++ Y) := by
            rw [← hLg]; conv => lhs; rw [← hA, ← hB]
            simp only[List.append_assoc]
          clear h1 h2 hA hB hlo hhi secA secB hcmp
          generalize A.take (i - a) = A1 at *
          generalize A.drop (i - a) = A2 at *
          generalize B.take (e - m) = B1 at *
          generalize B.drop (e - m) = B2 at *
          have hokR : ∀ L' : List Fl, L'.Perm L → ∀ x ∈ L', OkF x := fun L' hp x hx => hok x (hp.mem_iff.1 hx)
          have pR : ((X ++ A1) ++ B1 ++ A2 ++ (B2 ++ Y)).Perm L := by
            rw [hLs]
            simp only[List.append_assoc]
            refine List.Perm.append_left _ (List.Perm.append_left _ ?_)
            rw [← List.append_assoc B1, ← List.append_assoc A2]
            exact List.Perm.append_right _ List.perm_append_comm
          have hLR : A2 = [] ∨ B1 = [] → L = (X ++ A1) ++ B1 ++ A2 ++ (B2 ++ Y) := by
            rintro (rfl | rfl) <;> (rw [hLs]; simp)
          obtain ⟨L2, hL2⟩ : ∃ L2, L2 = (X ++ A1) ++ B1 ++ A2 ++ (B2 ++ Y) := ⟨_, rfl⟩
          rw [← hL2] at pR hLR
          have rot : ∀ H, H = h → i < m → m < e → ACalls Try.prog F.slices_rotateCmpFunc_sent [.ref id 0 N cap, .int .i64 i, .int .i64 m, .int .i64 e, .func f []] H (fun v h' => v = .tup [] ∧ h' = h.set id (.cells (L2.flatMap flC ++ rest))) := by
            rintro _ rfl g1 g2
            rw [hL2]
            exact rotateT_ok f (X ++ A1) A2 B1 (B2 ++ Y) N (by rw [← hLs]; exact hL) id cap i m e (by rw [List.length_append]; omega) (by rw [List.length_append]; omega) (by omega) rest _ (by rw [← hLs]; exact hid) g1 g2 hn
          have mg1 : ∀ H, H = h.set id (.cells (L2.flatMap flC ++ rest)) → a < i → i < c → ACalls Try.prog F.slices_symMergeCmpFunc_sent [.ref id 0 N cap, .int .i64 a, .int .i64 i, .int .i64 c, .func f []] H (fun v h' => v = .tup [] ∧ ∃ M1 L3, Mg A1 B1 M1 ∧ L3 = X ++ (M1 ++ (A2 ++ (B2 ++ Y))) ∧ h' = h.set id (.cells (L3.flatMap flC ++ rest))) := by
            rintro _ rfl g1 g2
            have eqL : X ++ A1 ++ B1 ++ (A2 ++ (B2 ++ Y)) = L2 := by rw [hL2]; simp only[List.append_assoc]
            refine ACalls.mono (ih a i c X A1 B1 (A2 ++ (B2 ++ Y)) _ (by omega) hXa (by omega) (by omega) g1 g2 (by simp only[List.length_append]; omega) sA.left sB.left (hokR _ (by rw [eqL]; exact pR)) (by rw [eqL]; exact List.getElem?_set_self hidl)) ?_
            rintro v h' ⟨e1, M1, e2, e3⟩
            exact ⟨e1, M1, _, e2, rfl, by rw [e3, List.set_set]; simp only[List.append_assoc]⟩
          have mg2 : ∀ (H : List HObj) (M1 L3 : List Fl), Mg A1 B1 M1 → L3 = X ++ (M1 ++ (A2 ++ (B2 ++ Y))) → H = h.set id (.cells (L3.flatMap flC ++ rest)) → c < e → e < b → ACalls Try.prog F.slices_symMergeCmpFunc_sent [.ref id 0 N cap, .int .i64 c, .int .i64 e, .int .i64 b, .func f []] H (fun v h' => v = .tup [] ∧ ∃ M, Mg A B M ∧ h' = h.set id (.cells ((X ++ M ++ Y).flatMap flC ++ rest))) := by
            rintro _ M1 L3 hM1 rfl rfl g1 g2
            have lm1 := hM1.len
            have eqM : X ++ (M1 ++ (A2 ++ (B2 ++ Y))) = (X ++ M1) ++ A2 ++ B2 ++ Y := by simp only[List.append_assoc]
            have pM : ((X ++ M1) ++ A2 ++ B2 ++ Y).Perm L := by
              refine List.Perm.trans ?_ pR
              rw [hL2]
              simp only[List.append_assoc]
              refine List.Perm.append_left _ ?_
              rw [← List.append_assoc A1]
              exact List.Perm.append_right _ hM1.perm
            refine ACalls.mono (ih c e b (X ++ M1) A2 B2 Y _ (by omega) (by rw [List.length_append]; omega) (by omega) (by omega) g1 g2 hbN sA.right sB.right (hokR _ pM) (by rw [← eqM]; exact List.getElem?_set_self hidl)) ?_
            rintro v h' ⟨e1, M2, e2, e3⟩
            exact ⟨e1, M1 ++ M2, hjoin M1 M2 hM1 e2, by rw [e3, List.set_set]; simp only[List.append_assoc]⟩
          have fin : ∀ (M1 L3 : List Fl), Mg A1 B1 M1 → L3 = X ++ (M1 ++ (A2 ++ (B2 ++ Y))) → A2 = [] ∨ B2 = [] → ∃ M, Mg A B M ∧ L3 = X ++ M ++ Y := by
            rintro M1 L3 hM1 rfl (h0 | h0)
            · refine ⟨M1 ++ B2, hjoin M1 B2 hM1 ?_, by rw [h0]; simp⟩
              rw [h0]; exact Mg.nilL sB.right
            · refine ⟨M1 ++ A2, hjoin M1 A2 hM1 ?_, by rw [h0]; simp⟩
              rw [h0]; exact Mg.nilR sA.right
          have ini : A1 = [] ∨ B1 = [] → ∃ M1, Mg A1 B1 M1 ∧ L2 = X ++ (M1 ++ (A2 ++ (B2 ++ Y))) := by
            rintro (h0 | h0)
            · exact ⟨B1, by rw [h0]; exact Mg.nilL sB.left, by rw [hL2, h0]; simp⟩
            · exact ⟨A1, by rw [h0]; exact Mg.nilR sA.left, by rw [hL2, h0]; simp⟩
          refine aopsG_cut (SymT N id cap a b c i e f L2 rest h) ?_ ?_
          · by_cases g1 : i < m
            · by_cases g2 : m < e
              · simp (disch:=first|assumption|omega) only[e20,e0,e2,e4,g1,g2,hec,go_sem,↓reduceIte,Nat.reduceEqDiff,reduceCtorEq,reduceIte]
                refine callG_ok (rot _ (by simp (disch:=first|assumption|omega) only[eh,go_sem]) g1 g2) (by simp (disch:=first|assumption|omega) only[go_sem]) ?_
                rintro _ _ ⟨rfl, hhh⟩
                rw [hhh]
                clear hhh
                simp (disch:=first|assumption|omega) only[go_sem]
                exact ⟨e0, e1, e3, e4, e18, e20, rfl, rfl⟩
              · simp (disch:=first|assumption|omega) only[e2,g1,g2,hec,go_sem,↓reduceIte,Nat.reduceEqDiff,reduceIte]
                exact ⟨e0, e1, e3, e4, e18, e20, rfl, by rw [← hLR (.inr (List.eq_nil_of_length_eq_zero (by omega))), setH_same hid]; first | exact eh | rfl⟩
            · simp (disch:=first|assumption|omega) only[g1,hec,go_sem,↓reduceIte,Nat.reduceEqDiff,reduceIte]
              exact ⟨e0, e1, e3, e4, e18, e20, rfl, by rw [← hLR (.inl (List.eq_nil_of_length_eq_zero (by omega))), setH_same hid]; first | exact eh | rfl⟩
          · clear e20 e21 e22 e0 e1 e2 e3 e4 e18 e19 eh
            rintro S ⟨e0, e1, e3, e4, e18, e20, e24, eh⟩
            simp (disch:=first|assumption|omega) only[e1,e20,go_sem,↓reduceIte,Nat.reduceEqDiff,reduceIte]
            refine aopsG_cut (fun S => ∃ M1 L3, Mg A1 B1 M1 ∧ L3 = X ++ (M1 ++ (A2 ++ (B2 ++ Y))) ∧ SymT N id cap a b c i e f L3 rest h S) ?_ ?_
            · by_cases g1 : a < i
              · by_cases g2 : i < c
                · simp (disch:=first|assumption|omega) only[e0,e1,e4,e18,e20,g1,g2,go_sem,↓reduceIte,Nat.reduceEqDiff,reduceCtorEq,reduceIte]
                  refine callG_ok (mg1 _ (by simp (disch:=first|assumption|omega) only[eh,go_sem]) g1 g2) (by simp (disch:=first|assumption|omega) only[go_sem]) ?_
                  rintro _ _ ⟨rfl, M1, L3, hM1, hL3, hhh⟩
                  rw [hhh]
                  clear hhh
                  simp (disch:=first|assumption|omega) only[go_sem]
                  exact ⟨M1, L3, hM1, hL3, e0, e1, e3, e4, e18, e20, e24, rfl⟩
                · simp (disch:=first|assumption|omega) only[e18,e20,g1,g2,go_sem,↓reduceIte,Nat.reduceEqDiff,reduceIte]
                  obtain ⟨M1, hM1, hL3⟩ := ini (.inr (List.eq_nil_of_length_eq_zero (by omega)))
                  exact ⟨M1, L2, hM1, hL3, e0, e1, e3, e4, e18, e20, e24, eh⟩
              · simp (disch:=first|assumption|omega) only[g1,go_sem,↓reduceIte,Nat.reduceEqDiff,reduceIte]
                obtain ⟨M1, hM1, hL3⟩ := ini (.inl (List.eq_nil_of_length_eq_zero (by omega)))
                exact ⟨M1, L2, hM1, hL3, e0, e1, e3, e4, e18, e20, e24, eh⟩
            · clear e0 e1 e3 e4 e18 e20 e24 eh
              rintro S ⟨M1, L3, hM1, hL3, e0, e1, e3, e4, e18, e20, e24, eh⟩
              by_cases g1 : c < e
              · by_cases g2 : e < b
                · simp (disch:=first|assumption|omega) only[e0,e3,e4,e18,e24,g1,g2,go_sem,↓reduceIte,Nat.reduceEqDiff,reduceCtorEq,reduceIte]
                  refine callG_ok (mg2 _ M1 L3 hM1 hL3 (by simp (disch:=first|assumption|omega) only[eh,go_sem]) g1 g2) (by simp (disch:=first|assumption|omega) only[go_sem]) ?_
                  rintro _ _ ⟨rfl, M, hM, hhh⟩
                  rw [hhh]
                  clear hhh
                  simp (disch:=first|assumption|omega) only[go_sem]
                  subst hQ
                  simp (disch:=first|assumption|omega) only[R.slices_symMergeCmpFunc_sent,go_sem]
                  exact ⟨rfl, M, hM, by simp only[List.append_assoc]⟩
                · simp (disch:=first|assumption|omega) only[e3,e18,e24,g1,g2,go_sem,↓reduceIte,Nat.reduceEqDiff,reduceIte]
                  subst hQ
                  simp (disch:=first|assumption|omega) only[R.slices_symMergeCmpFunc_sent,go_sem]
                  obtain ⟨M, hM, rfl⟩ := fin M1 L3 hM1 hL3 (.inr (List.eq_nil_of_length_eq_zero (by omega)))
                  exact ⟨rfl, M, hM, by first | rfl | exact eh⟩
              · simp (disch:=first|assumption|omega) only[e18,e24,g1,go_sem,↓reduceIte,Nat.reduceEqDiff,reduceIte]
                subst hQ
                obtain ⟨M, hM, rfl⟩ := fin M1 L3 hM1 hL3 (.inl (List.eq_nil_of_length_eq_zero (by omega)))
                exact ⟨(fun r hr => by cases hr), rfl, M, hM, eh⟩
end Go.Proofs.Ytpdajkbfemcdlaa
namespace Go.Proofs.Ytpdajkbfemcdlaa
open Go.Ge
def StQ (X A Y : List Fl) (id : Nat) (rest : List AVal) (h : List HObj) (v : AVal) (h' : List HObj) : Prop := v = .tup [] ∧ ∃ M, St A M ∧ h' = h.set id (.cells ((X ++ M ++ Y).flatMap flC ++ rest))
set_option maxHeartbeats 1000000 in
theorem insSentS_ok (f : Nat) (cf : Fl → Fl → Int) (hf : CmpD f cf) (hcf : CmpK cf) (id cap N : Nat) (rest : List AVal) (hn : N ≤ 1099511627776) (a b : Nat) (X A Y : List Fl) (h : List HObj) (hXa : X.length = a) (hAb : a + A.length = b) (hbN : b + Y.length = N) (hok : ∀ x ∈ A, OkF x) (hid : h[id]? = some (.cells ((X ++ A ++ Y).flatMap flC ++ rest))) :
    ACalls Try.prog F.slices_insertionSortCmpFunc_sent [.ref id 0 N cap, .int .i64 a, .int .i64 b, .func f []] h (StQ X A Y id rest h) := by
  have hidl : id < h.length := (List.getElem?_eq_some_iff.1 hid).1
  have h1s : St (A.take 1) (A.take 1) := ⟨by match A with | [] => exact Srt.nil | x :: _ => exact Srt.one x, List.Perm.refl _, fun _ => rfl⟩
  have hI : X ++ (A.take 1 ++ (A.drop 1 ++ Y)) = X ++ A ++ Y := by rw [← List.append_assoc (A.take 1), List.take_append_drop, List.append_assoc]
  refine ACalls.of_aw Try.func216 K.slices_insertionSortCmpFunc_sent (by simp [Try.f216]) ?_
  generalize hQ : retQ R.slices_insertionSortCmpFunc_sent _ = Q
  simp (disch:=first|assumption|omega) only[C.slices_insertionSortCmpFunc_sent,go_sem,↓reduceIte,reduceIte]
  refine aw_count (fun d S => ∃ (i : Nat) (M : List Fl), b - i = d ∧ a + 1 ≤ i ∧ S.env 8 = .int .i64 i ∧ S.env 0 = .ref id 0 N cap ∧ S.env 1 = .int .i64 a ∧ S.env 2 = .int .i64 b ∧ S.env 3 = .func f [] ∧ St (A.take (i - a)) M ∧ S.heap = h.set id (.cells ((X ++ M ++ (A.drop (i - a) ++ Y)).flatMap flC ++ rest))) (n := b - (a + 1))
    ⟨a + 1, A.take 1, rfl, by omega, by simp (disch:=first|assumption|omega) only[go_sem,↓reduceIte,reduceIte]; simp, by simp (disch:=first|assumption|omega) only[go_sem,↓reduceIte,reduceCtorEq,reduceIte], by simp (disch:=first|assumption|omega) only[go_sem,↓reduceIte,Nat.reduceEqDiff,reduceIte], by simp (disch:=first|assumption|omega) only[go_sem,↓reduceIte,Nat.reduceEqDiff,reduceIte], by simp (disch:=first|assumption|omega) only[go_sem,↓reduceIte,Nat.reduceEqDiff,reduceIte], by rw [Nat.add_sub_cancel_left]; exact h1s, by simp (disch:=first|assumption|omega) only[Nat.add_sub_cancel_left,go_sem]; rw [hI, setH_same hid]⟩ ?_
  rintro d S ⟨i, M, hd, hi, e8, e0, e1, e2, e3, hst, eh⟩
  by_cases hlt : (i : Int) < b
  · have hiA : i - a < A.length := by omega
    have hx := hok _ (List.getElem_mem hiA)
    have hlM : M.length = i - a := by rw [hst.perm.length_eq, List.length_take]; omega
    have htk : A.take (i + 1 - a) = A.take (i - a) ++ [A[i - a]] := by rw [show i + 1 - a = i - a + 1 by omega, List.take_add_one, List.getElem?_eq_getElem hiA]; rfl
    have hdr : A.drop (i - a) = A[i - a] :: A.drop (i + 1 - a) := by rw [List.drop_eq_getElem_cons hiA, show i + 1 - a = i - a + 1 by omega]
    rw [hdr] at eh
    have hlD : (A.drop (i + 1 - a)).length = b - i - 1 := by rw [List.length_drop]; omega
    have hokT : ∀ x ∈ A.take (i - a), OkF x := fun x hx => hok x (List.mem_of_mem_take hx)
    generalize A[i - a] = x at *
    simp (disch:=first|assumption|omega) only[e8,e2,hlt,go_sem,↓reduceIte,Nat.reduceEqDiff,reduceIte]
    refine aw_count (fun e S => ∃ (j : Nat) (U V : List Fl), j = e ∧ a ≤ j ∧ j ≤ i ∧ a + U.length = j ∧ U.length + V.length = i - a ∧ S.env 9 = .int .i64 j ∧ S.env 8 = .int .i64 i ∧ S.env 0 = .ref id 0 N cap ∧ S.env 1 = .int .i64 a ∧ S.env 2 = .int .i64 b ∧ S.env 3 = .func f [] ∧ St (A.take (i - a)) (U ++ V) ∧ (∀ v ∈ V, kd x < kd v) ∧ S.heap = h.set id (.cells ((X ++ U ++ x :: (V ++ (A.drop (i + 1 - a) ++ Y))).flatMap flC ++ rest))) (n := i)
      ⟨i, M, [], rfl, by omega, by omega, by omega, by simp; omega, by simp (disch:=first|assumption|omega) only[go_sem,↓reduceIte,reduceIte], by simp (disch:=first|assumption|omega) only[e8,go_sem,↓reduceIte,Nat.reduceEqDiff,reduceIte], by simp (disch:=first|assumption|omega) only[e0,go_sem,↓reduceIte,reduceCtorEq,reduceIte], by simp (disch:=first|assumption|omega) only[e1,go_sem,↓reduceIte,Nat.reduceEqDiff,reduceIte], by simp (disch:=first|assumption|omega) only[e2,go_sem,↓reduceIte,Nat.reduceEqDiff,reduceIte], by simp (disch:=first|assumption|omega) only[e3,go_sem,↓reduceIte,Nat.reduceEqDiff,reduceIte], by rw [List.append_nil]; exact hst, (fun v hv => by cases hv), by simp (disch:=first|assumption|omega) only[eh,go_sem]⟩ ?_
    clear e8 e0 e1 e2 e3 eh hst hdr
    clear hlM
    clear M
    rintro e S ⟨j, U, V, he, haj, hji, hUj, hUV, e9, e8, e0, e1, e2, e3, hst, hV, eh⟩
    have fin : (∀ u ∈ U, kd u ≤ kd x) → St (A.take (i + 1 - a)) (U ++ x :: V) := fun hU => by rw [htk]; exact hst.snoc hU hV
    have hfin : X ++ U ++ x :: (V ++ (A.drop (i + 1 - a) ++ Y)) = X ++ (U ++ x :: V) ++ (A.drop (i + 1 - a) ++ Y) := by simp only[List.append_assoc,List.cons_append]
    by_cases hja : (a : Int) < j
    · obtain ⟨U', u, rfl⟩ : ∃ U' u, U = U' ++ [u] := by
        rcases List.eq_nil_or_concat U with rfl | ⟨U', u, e⟩
        · simp only[List.length_nil] at hUj; omega
        · exact ⟨U', u, by rw [e, List.concat_eq_append]⟩
      have hu : OkF u := hokT u (hst.perm.mem_iff.1 (by simp))
      have hux := hcf x u hx hu
      rw [List.length_append, List.length_singleton] at hUj hUV
      have hsh : X ++ (U' ++ [u]) ++ x :: (V ++ (A.drop (i + 1 - a) ++ Y)) = (X ++ U') ++ u :: ([] ++ x :: (V ++ (A.drop (i + 1 - a) ++ Y))) := by simp only[List.append_assoc,List.cons_append,List.nil_append]
      have hsn : X ++ U' ++ x :: ((u :: V) ++ (A.drop (i + 1 - a) ++ Y)) = (X ++ U') ++ x :: ([] ++ u :: (V ++ (A.drop (i + 1 - a) ++ Y))) := by simp only[List.append_assoc,List.cons_append,List.nil_append]
      have sw := swapT (U := X ++ U') (V := []) (W := V ++ (A.drop (i + 1 - a) ++ Y)) u x rest (i := j - 1) (j := j) (by rw [List.length_append]; omega) (by rw [List.length_append]; simp only[List.length_nil]; omega)
      have hLl : (X ++ (U' ++ [u]) ++ x :: (V ++ (A.drop (i + 1 - a) ++ Y))).length = N := by simp only[List.length_append,List.length_cons,List.length_nil,hlD]; omega
      have eh0 := eh
      rw [hsh] at eh hLl
      generalize (X ++ U') ++ u :: ([] ++ x :: (V ++ (A.drop (i + 1 - a) ++ Y))) = L0 at *
      generalize (X ++ U') ++ u :: ([] ++ u :: (V ++ (A.drop (i + 1 - a) ++ Y))) = M1 at *
      generalize (X ++ U') ++ x :: ([] ++ u :: (V ++ (A.drop (i + 1 - a) ++ Y))) = L2 at *
      obtain ⟨q1, q2, _, _, t1, t2, _, l2, m1⟩ := sw
      have hget : (h.set id (.cells (L0.flatMap flC ++ rest)))[id]? = some (.cells (L0.flatMap flC ++ rest)) := List.getElem?_set_self hidl
      have hget2 : (h.set id (.cells (M1.flatMap flC ++ rest)))[id]? = some (.cells (M1.flatMap flC ++ rest)) := List.getElem?_set_self hidl
      have hlen := rowLen L0 rest
      have hlen2 := rowLen M1 rest
      have k1 : (((j : Nat) : Int) - 1).toNat = j - 1 := by omega
      have hjN : j < N := by omega
      simp (disch:=first|assumption|omega) only[e9,e0,e1,e3,eh,hja,hget,q1,q2,k1,hlen,flC_rdc,go_sem,↓reduceIte,Nat.reduceEqDiff,reduceCtorEq,Nat.reduceLeDiff,reduceIte]
      refine ⟨by omega, by omega, ⟨by omega, by omega⟩, by omega, ?_⟩
      refine callvqG_ok (hf x u _) (by simp (disch:=first|assumption|omega) only[go_sem]) ?_
      rintro _ _ ⟨rfl, hhh⟩
      rw [hhh]
      clear hhh
      refine ⟨rfl, ?_⟩
      by_cases hw : cf x u < 0
      · simp (disch:=first|assumption|omega) only[e9,e8,e0,e1,e2,e3,eh,hget,q1,q2,k1,hlen,flC_rdc,flC_all,flC_len,t1,t2,List.set_set,hget2,hlen2,m1,hw,go_sem,↓reduceIte,Nat.reduceEqDiff,reduceCtorEq,Nat.reduceLeDiff,reduceIte]
        exact ⟨⟨by omega, by omega⟩, by omega, by omega, by omega, by omega, by omega, ⟨by omega, by omega⟩, by omega, j - 1, by omega, j - 1, U', u :: V, rfl, by omega, by omega, by omega, by simp only[List.length_cons]; omega, by congr 1; omega, by simpa using hst, (fun v hv => by rcases List.mem_cons.1 hv with rfl | hv; exact hux.1 hw; exact hV v hv), by simpa only [List.append_assoc] using congrArg (fun L => h.set id (HObj.cells (L.flatMap flC ++ rest))) hsn.symm⟩
      · simp (disch:=first|assumption|omega) only[e8,e0,e1,e2,e3,eh,hw,go_sem,↓reduceIte,Nat.reduceEqDiff,reduceCtorEq,reduceIte]
        have hU : ∀ v ∈ U' ++ [u], kd v ≤ kd x := by
          have h3 : kd u ≤ kd x := by have := mt hux.2 hw; omega
          intro v hv
          rcases List.mem_append.1 hv with hv | hv
          · exact Int.le_trans (hst.srt.left.cross hv (by simp)) h3
          · simp at hv; subst hv; exact h3
        exact ⟨d - 1, by omega, i + 1, _, by omega, by omega, by simp, fin hU, by simpa only [List.append_assoc] using congrArg (fun L => h.set id (HObj.cells (L.flatMap flC ++ rest))) (hsh.symm.trans hfin)⟩
    · have hskip := True.intro
      simp (disch:=first|assumption|omega) only[e9,e8,e0,e1,e2,e3,eh,hja,go_sem,↓reduceIte,Nat.reduceEqDiff,reduceCtorEq,reduceIte]
      obtain rfl : U = [] := List.eq_nil_of_length_eq_zero (by omega)
      exact ⟨d - 1, by omega, i + 1, _, by omega, by omega, by simp, fin (fun u hu => by cases hu), by simpa only [List.append_assoc, List.nil_append] using congrArg (fun L => h.set id (HObj.cells (L.flatMap flC ++ rest))) hfin⟩
  · simp (disch:=first|assumption|omega) only[e8,e2,hlt,go_sem,↓reduceIte,Nat.reduceEqDiff,reduceIte]
    subst hQ
    simp (disch:=first|assumption|omega) only[R.slices_insertionSortCmpFunc_sent,go_sem]
    rw [List.take_of_length_le (by omega)] at hst
    rw [List.drop_of_length_le (by omega), List.nil_append] at eh
    exact ⟨rfl, M, hst, eh⟩
set_option maxHeartbeats 1000000 in
theorem stableS_ok (f : Nat) (cf : Fl → Fl → Int) (hf : CmpD f cf) (hcf : CmpK cf) (id cap N : Nat) (rest : List AVal) (hn : N ≤ 1099511627776) (L : List Fl) (h : List HObj) (hL : L.length = N) (hok : ∀ x ∈ L, OkF x) (hid : h[id]? = some (.cells (L.flatMap flC ++ rest))) :
    ACalls Try.prog F.slices_stableCmpFunc_sent [.ref id 0 N cap, .int .i64 N, .func f []] h (fun v h' => v = .tup [] ∧ ∃ L' : List Fl, St L L' ∧ h' = h.set id (.cells (L'.flatMap flC ++ rest))) := by
  have hidl : id < h.length := (List.getElem?_eq_some_iff.1 hid).1
  have ins : ∀ (X A Y : List Fl) (H : List HObj) (a b : Nat) (p q : Int), (∀ x ∈ A, OkF x) → H = h.set id (.cells ((X ++ A ++ Y).flatMap flC ++ rest)) → p = a → q = b → X.length = a → a + A.length = b → b + Y.length = N → ACalls Try.prog F.slices_insertionSortCmpFunc_sent [.ref id 0 N cap, .int .i64 p, .int .i64 q, .func f []] H (fun v h' => v = .tup [] ∧ ∃ M, St A M ∧ h' = h.set id (.cells ((X ++ M ++ Y).flatMap flC ++ rest))) := by
    rintro X A Y _ a b _ _ hk rfl rfl rfl h1 h2 h3
    refine ACalls.mono (insSentS_ok f cf hf hcf id cap N rest hn a b X A Y _ h1 h2 h3 hk (List.getElem?_set_self hidl)) fun v h' ⟨e1, M, e2, e3⟩ => ⟨e1, M, e2, by rw [e3, List.set_set]⟩
  have mrg : ∀ (X A B Y : List Fl) (H : List HObj) (a m b : Nat) (p q r : Int), (∀ x ∈ X ++ A ++ B ++ Y, OkF x) → H = h.set id (.cells ((X ++ A ++ B ++ Y).flatMap flC ++ rest)) → p = a → q = m → r = b → X.length = a → a + A.length = m → m + B.length = b → a < m → m < b → b + Y.length = N → Srt A → Srt B → ACalls Try.prog F.slices_symMergeCmpFunc_sent [.ref id 0 N cap, .int .i64 p, .int .i64 q, .int .i64 r, .func f []] H (fun v h' => v = .tup [] ∧ ∃ M, Mg A B M ∧ h' = h.set id (.cells ((X ++ M ++ Y).flatMap flC ++ rest))) := by
    rintro X A B Y _ a m b _ _ _ hk rfl rfl rfl rfl h1 h2 h3 h4 h5 h6 h7 h8
    refine ACalls.mono (symMergeS_ok f cf hf hcf id cap N rest hn (b - a) a m b X A B Y _ (Nat.le_refl _) h1 h2 h3 h4 h5 h6 h7 h8 hk (List.getElem?_set_self hidl)) fun v h' ⟨e1, M, e2, e3⟩ => ⟨e1, M, e2, by rw [e3, List.set_set]⟩
  refine ACalls.of_aw Try.func199 K.slices_stableCmpFunc_sent (by simp [Try.f199]) ?_
  generalize hQ : retQ R.slices_stableCmpFunc_sent _ = Q
  simp (disch:=first|assumption|omega) only[C.slices_stableCmpFunc_sent,go_sem,↓reduceIte,Nat.reduceEqDiff,reduceIte]
  refine aw_count (fun d S => ∃ (a b : Nat) (P P' R : List Fl), N + 20 - b = d ∧ b = a + 20 ∧ a ≤ N ∧ S.env 7 = .int .i64 a ∧ S.env 8 = .int .i64 b ∧ S.env 6 = .int .i64 20 ∧ S.env 0 = .ref id 0 N cap ∧ S.env 1 = .int .i64 N ∧ S.env 2 = .func f [] ∧ L = P ++ R ∧ P.length = a ∧ Fu 20 P P' ∧ S.heap = h.set id (.cells ((P' ++ R).flatMap flC ++ rest))) (n := N)
    ⟨0, 20, [], [], L, by omega, by omega, by omega, by simp (disch:=first|assumption|omega) only[go_sem,↓reduceIte,Nat.reduceEqDiff,reduceIte]; try rfl, by simp (disch:=first|assumption|omega) only[go_sem,↓reduceIte,reduceIte]; try rfl, by simp (disch:=first|assumption|omega) only[go_sem,↓reduceIte,Nat.reduceEqDiff,reduceIte], by simp (disch:=first|assumption|omega) only[go_sem,↓reduceIte,reduceCtorEq,reduceIte], by simp (disch:=first|assumption|omega) only[go_sem,↓reduceIte,Nat.reduceEqDiff,reduceIte], by simp (disch:=first|assumption|omega) only[go_sem,↓reduceIte,Nat.reduceEqDiff,reduceIte], rfl, rfl, Fu.nil, by simp (disch:=first|assumption|omega) only[go_sem]; rw [setH_same hid]⟩ ?_
  rintro d S ⟨a, b, P, P', R, hd, hb, haN, e7, e8, e6, e0, e1, e2, hLP, hPa, hfu, eh⟩
  have hPl := hfu.perm.length_eq
  have hRl : R.length = N - a := by have := congrArg List.length hLP; rw [List.length_append] at this; omega
  have hokR : ∀ x ∈ R, OkF x := fun x hx => hok x (by rw [hLP]; simp [hx])
  by_cases hbN : b ≤ N
  · have hR := List.take_append_drop 20 R
    have hl1 : (R.take 20).length = 20 := by rw [List.length_take]; omega
    have hl2 : (R.drop 20).length = N - b := by rw [List.length_drop]; omega
    have hok1 : ∀ x ∈ R.take 20, OkF x := fun x hx => hokR x (List.mem_of_mem_take hx)
    generalize R.take 20 = A at *
    generalize R.drop 20 = R2 at *
    subst hR
    simp (disch:=first|assumption|omega) only[e7,e8,e0,e1,e2,hbN,go_sem,↓reduceIte,Nat.reduceEqDiff,reduceCtorEq,reduceIte]
    refine callG_ok (ins P' A R2 _ a b a b hok1 (by simp (disch:=first|assumption|omega) only[eh,go_sem]; try simp only[List.append_assoc]) rfl rfl (by omega) (by omega) (by omega)) (by simp (disch:=first|assumption|omega) only[go_sem]) ?_
    rintro _ _ ⟨rfl, M, hM, hhh⟩
    rw [hhh]
    clear hhh
    simp (disch:=first|assumption|omega) only[e8,e6,e0,e1,e2,go_sem,↓reduceIte,Nat.reduceEqDiff,reduceCtorEq,reduceIte]
    exact ⟨d - 20, by omega, b, b + 20, P ++ A, P' ++ M, R2, by omega, rfl, hbN, rfl, by simp, by rw [hLP]; simp, by rw [List.length_append]; omega, hfu.snoc hl1 hM, by simp only[List.append_assoc]⟩
  · simp (disch:=first|assumption|omega) only[e7,e8,e0,e1,e2,hbN,go_sem,↓reduceIte,Nat.reduceEqDiff,reduceCtorEq,reduceIte]
    refine callG_ok (ins P' R [] _ a N a N hokR (by simp (disch:=first|assumption|omega) only[eh,go_sem]; try simp only[List.append_nil]) rfl rfl (by omega) (by omega) (by simp)) (by simp (disch:=first|assumption|omega) only[go_sem]) ?_
    rintro _ _ ⟨rfl, M, hM, hhh⟩
    rw [hhh]
    clear hhh
    have hbk0 : Bk 20 L (P' ++ M ++ []) := by rw [hLP, List.append_nil]; exact hfu.close (.last (by omega) hM)
    generalize P' ++ M ++ [] = L1 at hbk0 ⊢
    simp (disch:=first|assumption|omega) only[go_sem]
    refine aw_count (fun d S => ∃ (z : Nat) (L' : List Fl), 2 * N + 20 - z = d ∧ 20 ≤ z ∧ z ≤ 2 * N + 20 ∧ S.env 6 = .int .i64 z ∧ S.env 0 = .ref id 0 N cap ∧ S.env 1 = .int .i64 N ∧ S.env 2 = .func f [] ∧ Bk z L L' ∧ S.heap = h.set id (.cells (L'.flatMap flC ++ rest))) (n := 2 * N)
      ⟨20, L1, by omega, by omega, by omega, by simp (disch:=first|assumption|omega) only[e6,go_sem,↓reduceIte,Nat.reduceEqDiff,reduceIte]; try rfl, by simp (disch:=first|assumption|omega) only[e0,go_sem,↓reduceIte,reduceCtorEq,reduceIte], by simp (disch:=first|assumption|omega) only[e1,go_sem,↓reduceIte,Nat.reduceEqDiff,reduceIte], by simp (disch:=first|assumption|omega) only[e2,go_sem,↓reduceIte,Nat.reduceEqDiff,reduceIte], hbk0, by simp (disch:=first|assumption|omega) only[go_sem]⟩ ?_
    clear e7 e8 e6 e0 e1 e2 eh hfu hLP hPl hRl hokR hM hbk0
    clear hPa hb haN hbN hd
    clear P P' R M L1 a b
    rintro d S ⟨z, L', hd, hz, hz2, e6, e0, e1, e2, hbk, eh⟩
    by_cases hzN : z < N
    · have hzN' : (z : Int) < N := by omega
      simp (disch:=first|assumption|omega) only[e6,e1,hzN,go_sem,↓reduceIte,Nat.reduceEqDiff,reduceIte]
      refine aw_count (fun e S => ∃ (a b : Nat) (P P' R R' : List Fl), N + 2 * z - b = e ∧ b = a + 2 * z ∧ a ≤ N ∧ S.env 7 = .int .i64 a ∧ S.env 8 = .int .i64 b ∧ S.env 6 = .int .i64 z ∧ S.env 0 = .ref id 0 N cap ∧ S.env 1 = .int .i64 N ∧ S.env 2 = .func f [] ∧ L = P ++ R ∧ P.length = a ∧ Fu (2 * z) P P' ∧ Bk z R R' ∧ S.heap = h.set id (.cells ((P' ++ R').flatMap flC ++ rest))) (n := N)
        ⟨0, 2 * z, [], [], L, L', by omega, by omega, by omega, by simp (disch:=first|assumption|omega) only[go_sem,↓reduceIte,Nat.reduceEqDiff,reduceIte]; try rfl, by simp (disch:=first|assumption|omega) only[go_sem,↓reduceIte,reduceIte]; first | done | simp, by simp (disch:=first|assumption|omega) only[e6,go_sem,↓reduceIte,Nat.reduceEqDiff,reduceIte], by simp (disch:=first|assumption|omega) only[e0,go_sem,↓reduceIte,reduceCtorEq,reduceIte], by simp (disch:=first|assumption|omega) only[e1,go_sem,↓reduceIte,Nat.reduceEqDiff,reduceIte], by simp (disch:=first|assumption|omega) only[e2,go_sem,↓reduceIte,Nat.reduceEqDiff,reduceIte], rfl, rfl, Fu.nil, hbk, by simp (disch:=first|assumption|omega) only[eh,go_sem]⟩ ?_
      clear e6 e0 e1 e2 eh hbk
      clear L'
      rintro e S ⟨a, b, P, P', R, R', he, hb, haN, e7, e8, e6, e0, e1, e2, hLP, hPa, hfu, hbk, eh⟩
      have hPl := hfu.perm.length_eq
      have hRl : R.length = N - a := by have := congrArg List.length hLP; rw [List.length_append] at this; omega
      have hokL : ∀ L2 : List Fl, L2.Perm (P ++ R) → ∀ x ∈ L2, OkF x := fun L2 hp x hx => hok x (by rw [hLP]; exact hp.mem_iff.1 hx)
      by_cases hbN2 : b ≤ N
      · obtain ⟨A, A', R1, R1', rfl, rfl, hA1, hA2, hbk1⟩ := hbk.split (by omega)
        rw [List.length_append] at hRl
        obtain ⟨B, B', R2, R2', rfl, rfl, hB1, hB2, hbk2⟩ := hbk1.split (by omega)
        rw [List.length_append] at hRl
        have la := hA2.perm.length_eq
        have lb := hB2.perm.length_eq
        have lr := hbk2.len
        have hz1 : 2 * z = A.length + B.length := by omega
        simp (disch:=first|assumption|omega) only[e7,e8,e6,e0,e1,e2,hbN2,go_sem,↓reduceIte,Nat.reduceEqDiff,reduceCtorEq,reduceIte]
        refine callG_ok (mrg P' A' B' R2' _ a (a + z) b a (a + z) b (hokL _ (by simp only[List.append_assoc]; exact hfu.perm.append (hA2.perm.append (hB2.perm.append hbk2.perm)))) (by simp (disch:=first|assumption|omega) only[eh,go_sem]; try simp only[List.append_assoc]) rfl (by omega) rfl (by omega) (by omega) (by omega) (by omega) (by omega) (by omega) hA2.srt hB2.srt) (by simp (disch:=first|assumption|omega) only[go_sem]) ?_
        rintro _ _ ⟨rfl, M, hM, hhh⟩
        rw [hhh]
        clear hhh
        simp (disch:=first|assumption|omega) only[e8,e6,e0,e1,e2,go_sem,↓reduceIte,Nat.reduceEqDiff,reduceCtorEq,reduceIte]
        exact ⟨e - 2 * z, by omega, b, b + 2 * z, P ++ (A ++ B), P' ++ M, R2, R2', by omega, rfl, hbN2, rfl, by simp, by rw [hLP]; simp, by simp only[List.length_append]; omega, hfu.snoc (by rw [List.length_append]; omega) (hM.st hA2 hB2), hbk2, by simp only[List.append_assoc]⟩
      · simp (disch:=first|assumption|omega) only[e7,e8,e6,e1,hbN2,go_sem,↓reduceIte,Nat.reduceEqDiff,reduceIte]
        by_cases hmN : (a : Int) + z < N
        · obtain ⟨A, A', R1, R1', rfl, rfl, hA1, hA2, hbk1⟩ := hbk.split (by omega)
          rw [List.length_append] at hRl
          have hR1 := hbk1.whole (by omega)
          have la := hA2.perm.length_eq
          have lr := hR1.perm.length_eq
          simp (disch:=first|assumption|omega) only[e7,e0,e1,e2,hmN,go_sem,↓reduceIte,Nat.reduceEqDiff,reduceCtorEq,reduceIte]
          refine callG_ok (mrg P' A' R1' [] _ a (a + z) N a (a + z) N (hokL _ (by simp only[List.append_assoc,List.append_nil]; exact hfu.perm.append (hA2.perm.append hR1.perm))) (by simp (disch:=first|assumption|omega) only[eh,go_sem]; try simp only[List.append_assoc,List.append_nil]) rfl (by omega) rfl (by omega) (by omega) (by omega) (by omega) (by omega) (by simp) hA2.srt hR1.srt) (by simp (disch:=first|assumption|omega) only[go_sem]) ?_
          rintro _ _ ⟨rfl, M, hM, hhh⟩
          rw [hhh]
          clear hhh
          simp (disch:=first|assumption|omega) only[e6,e0,e1,e2,go_sem,↓reduceIte,Nat.reduceEqDiff,reduceCtorEq,reduceIte]
          exact ⟨2 * N + 20 - z * 2, by omega, z * 2, P' ++ M, rfl, by omega, by omega, by simp, by rw [hLP, Nat.mul_comm]; exact hfu.close (.last (by rw [List.length_append]; omega) (hM.st hA2 hR1)), by simp only[List.append_nil]⟩
        · have hR1 := hbk.whole (by omega)
          simp (disch:=first|assumption|omega) only[e6,e0,e1,e2,eh,hmN,go_sem,↓reduceIte,Nat.reduceEqDiff,reduceCtorEq,reduceIte]
          exact ⟨2 * N + 20 - z * 2, by omega, z * 2, P' ++ R', rfl, by omega, by omega, by simp, by rw [hLP, Nat.mul_comm]; exact hfu.close (.last (by omega) hR1), by first | rfl | exact eh⟩
    · simp (disch:=first|assumption|omega) only[e6,e1,hzN,go_sem,↓reduceIte,Nat.reduceEqDiff,reduceIte]
      subst hQ
      simp (disch:=first|assumption|omega) only[R.slices_stableCmpFunc_sent,go_sem]
      exact ⟨L', hbk.whole (by omega), by first | rfl | exact eh⟩
theorem SortStableS_ok (f : Nat) (cf : Fl → Fl → Int) (hf : CmpD f cf) (hcf : CmpK cf) (id cap N : Nat) (rest : List AVal) (hn : N ≤ 1099511627776) (L : List Fl) (h : List HObj) (hL : L.length = N) (hok : ∀ x ∈ L, OkF x) (hid : h[id]? = some (.cells (L.flatMap flC ++ rest))) :
    ACalls Try.prog F.slices_SortStableFunc_sent [.ref id 0 N cap, .func f []] h (fun v h' => v = .tup [] ∧ ∃ L' : List Fl, St L L' ∧ h' = h.set id (.cells (L'.flatMap flC ++ rest))) := by
  refine ACalls.of_aw Try.func166 K.slices_SortStableFunc_sent (by simp [Try.f166]) ?_
  generalize hQ : retQ R.slices_SortStableFunc_sent _ = Q
  simp (disch:=first|assumption|omega) only[C.slices_SortStableFunc_sent,go_sem,↓reduceIte,Nat.reduceEqDiff,reduceCtorEq,reduceIte]
  refine callG_ok (stableS_ok f cf hf hcf id cap N rest hn L _ hL hok (by simp (disch:=first|assumption|omega) only[hid,go_sem])) (by simp (disch:=first|assumption|omega) only[go_sem]) ?_
  rintro _ _ ⟨rfl, L', hp, hhh⟩
  simp only[go_sem] at hhh
  rw [hhh]
  clear hhh
  simp (disch:=first|assumption|omega) only[go_sem]
  subst hQ
  simp (disch:=first|assumption|omega) only[R.slices_SortStableFunc_sent,go_sem]
  exact ⟨L', hp, rfl⟩
theorem cmpK_due : CmpK cfDue := by
  intro x y hx hy
  unfold OkF at hx hy
  unfold cfDue
  have : IntKind.i64.wrap (x.2.2 - y.2.2) = x.2.2 - y.2.2 := wrapI64 (by unfold kd at hx hy; omega) (by unfold kd at hx hy; omega)
  rw [this]; unfold kd; omega
end Go.Proofs.Ytpdajkbfemcdlaa
namespace Go.Proofs.Ytpdajkbfemcdlaa
open Go.Ge
def Row0 (h : List HObj) (w : AVal) (L : List Fl) (id : Nat) : Prop :=
  w = .lst .nil [] ∧ L = [] ∨ ∃ cap rest, w = .ref id 0 L.length cap ∧ L.length ≤ cap ∧ h[id]? = some (.cells (L.flatMap flC ++ rest)) ∧ rest.length = (cap - L.length) * 7
theorem Row0.push {C : CallS} {r : AOpn → AVal} {hp : List HObj} {K : AVal → List HObj → Prop} {x y : AOpn} {id : Nat} {w v : AVal} {o : Own} {L : List Fl} {a : Fl}
    (hw : Row0 hp w L id) (hx : r x = w) (hy : r y = .lst o [v]) (hv : v.cells = flC a) (hvw : v.width = 7) (h1 : L.length ≤ 1000000)
    (hK : ∀ w' h' id', Row0 h' w' (L ++ [a]) id' → (∃ cap, w' = .ref id' 0 (L.length + 1) cap) → (Fr [] hp h' ∧ id' = hp.length ∨ Fr [id] hp h' ∧ id' = id ∧ w ≠ .lst .nil []) → K w' h') : hstep C r hp (.appendR 7 72 x y) K := by
  have hm : ([v].flatMap AVal.cells).map Ge.rdc = flC a := by
    rw [List.flatMap_cons, List.flatMap_nil, List.append_nil, hv]
    exact flC_rdc a
  have hfa := flC_len a
  have he : (L ++ [a]).flatMap flC = L.flatMap flC ++ flC a := by simp
  have hnew : ∀ cap, L.length + 1 ≤ cap → K (.ref hp.length 0 (L.length + 1) cap) (hp ++ [.cells (L.flatMap flC ++ flC a ++ List.replicate ((cap - (L.length + 1)) * 7) .junk)]) := by
    intro cap hc
    refine hK _ _ hp.length (.inr ⟨cap, List.replicate ((cap - (L.length + 1)) * 7) .junk, by simp, by simp; omega, ?_, by simp⟩) ⟨cap, rfl⟩ (.inl ⟨Fr.app, rfl⟩)
    rw [List.getElem?_append_right (Nat.le_refl _), Nat.sub_self, he]; simp
  simp only[hstep,srcH,srcW,hx,hy,hm]
  refine ⟨by simpa using hvw, ?_⟩
  rcases hw with ⟨rfl, rfl⟩ | ⟨cap, rest, rfl, hc, hh, hrest⟩
  · simp only[List.length_singleton]
    refine ⟨by omega, by omega, fun e => by omega, fun _ => ?_⟩
    intro cap hc
    have := hnew cap (by simpa using hc)
    simpa using this
  · simp only[List.length_singleton]
    have hl := flatF_len flC_len L
    refine ⟨by omega, by omega, fun e => by omega, fun _ hlt => ?_, fun _ hge => ?_⟩
    · simp only[hh]
      have hone : (cap - L.length) * 7 = (cap - (L.length + 1)) * 7 + 7 := by omega
      refine ⟨by simp only[List.length_append]; omega, ?_⟩
      refine hK _ _ id (.inr ⟨cap, rest.drop 7, by simp, by simp; omega, ?_, by rw [List.length_drop, List.length_append, hrest, hone]; simp⟩) ⟨cap, rfl⟩ (.inr ⟨Fr.set (by simp), rfl, by simp⟩)
      rw [List.getElem?_set_self (lt_of_get hh)]
      congr 2
      unfold fillV
      rw [hfa, Nat.zero_add, ← hl, List.take_left, he, List.drop_length_add_append]
    · have hsrc : srcH 7 hp (.ref id 0 L.length cap) = some (L.length, L.flatMap flC) := by
        simp only[srcH]
        split
        · rename_i e
          have : L = [] := List.eq_nil_of_length_eq_zero e
          subst this; rfl
        · rw [hh]
          simp only[]
          rw [if_pos (by simp only[List.length_append,hl]; omega)]
          congr 2
          rw [List.drop_zero, ← hl, List.take_left]
          conv => rhs; rw [← List.map_id (L.flatMap flC)]
          refine List.map_congr_left fun c hc => ?_
          obtain ⟨x, _, hx⟩ := List.mem_flatMap.1 hc
          exact (flC_st x c hx).2
      simp only[srcH] at hsrc
      rw [hsrc]
      simp only[]
      intro cap' hc'
      exact hnew cap' hc'
def flA (x : Fl) : AVal := .agg (flC x)
def outA (x : Fl) : AVal := msgA (ownB x.1) x.2.1
def KeptV (v : AVal) (K : List Fl) : Prop := v = .lst .nil [] ∧ K = [] ∨ v = .lst (.app 7) (K.map flA)
def isHere (to tick : Int) (x : Fl) : Bool := decide (x.2.1.To = to) && decide (x.2.2 ≤ tick)
def OutV (v : AVal) (L : List Fl) : Prop := v = .lst .nil [] ∧ L = [] ∨ v = .lst (.app 6) (L.map outA)
theorem at_fl {L : List Fl} {i : Nat} (h : i < L.length) : at_ (L.map flA) (i : Int) = .agg (flC L[i]) := by
  simp [at_, List.getD_eq_getElem?_getD, h, flA]
theorem filter_take {p : Fl → Bool} {L : List Fl} {i : Nat} (h : i < L.length) : (L.take (i + 1)).filter p = (L.take i).filter p ++ if p L[i] = true then [L[i]] else [] := by
  rw [List.take_add_one, List.getElem?_eq_getElem h, List.filter_append]
  simp only[Option.toList_some,List.filter_cons,List.filter_nil]
end Go.Proofs.Ytpdajkbfemcdlaa
namespace Go.Proofs.Ytpdajkbfemcdlaa
open Go.Ge
theorem GotR.push {g : AVal} {l : List Msg} (h : GotR g l) {m : Msg} {x : AVal} (hx : MsgOk m x) : ∃ xs, MsgsOk (l ++ [m]) (xs ++ [x]) ∧ (g = .lst .nil [] ∧ xs = [] ∨ g = .lst (.app 6) xs) ∧ xs.length = l.length := by
  rcases h with ⟨rfl, rfl⟩ | ⟨xs, rfl, h⟩
  · exact ⟨[], MsgsOk.snoc (l := []) (xs := []) hx rfl, .inl ⟨rfl, rfl⟩, rfl⟩
  · exact ⟨xs, h.snoc hx, .inr rfl, h.length⟩
theorem outM_len (t c : Int) (l : List (Msg × Int)) (i : Nat) : (outM t c l i).length ≤ i := by
  unfold outM
  rw [List.length_map]
  exact Nat.le_trans (List.length_filter_le _ _) (by simp; omega)
theorem Out_ok (e : Nat) (own : List Nat) (self other : Int) (s : Lk) (n t c : Int) (h : List HObj) (hr : EndR h e own self other s) (hs : s.ok n) (hn : n ≤ 1099511627776) :
    ACalls Try.prog F.link_End_Out [.hp e 0, .int .i64 t, .int .u32 c] h (fun v h' => GotR v (outL s self other (clampT t) c) ∧ EndQ h e own self other (outS s (clampT t)) h') := by
  obtain ⟨h1, w, g, L, h2, h3, h4, h5, h6⟩ := hr
  have hwl := hs.wait
  have hlw : L.length = s.wait.length := by rw [← h4]; simp
  have ht0 : 0 ≤ clampT t ∧ clampT t ≤ 2000 := by unfold clampT; omega
  have hT : (if (0 : Int) < (if 2000 < t then 2000 else t) then (if 2000 < t then 2000 else t) else 0) = clampT t := by unfold clampT; split <;> split <;> omega
  have hmin : (if (8 : Int) < L.length then (8 : Int) else L.length) = ((min L.length 8 : Nat) : Int) := by split <;> omega
  have hcon : ∃ w0, w0 = w := ⟨w, rfl⟩
  refine ACalls.of_aw Try.func169 K.link_End_Out (by simp [Try.f169]) ?_
  generalize hQ : retQ R.link_End_Out _ = Q
  simp (disch:=first|assumption|omega) only[C.link_End_Out,go_sem,↓reduceIte,Nat.reduceEqDiff,reduceCtorEq,Nat.reduceLeDiff,reduceIte]
  generalize clampT t = T at *
  rcases h3.cases with ⟨hwe, hLe⟩ | ⟨id, off, cap, hwe, hcp, hi, hsr⟩
  all_goals (
    have h2' := h2
    rw [hwe] at h2'
    simp (disch:=first|assumption|omega) only[h2',hT,hmin,go_sem,↓reduceIte,Nat.reduceAdd,Nat.reduceLT,reduceIte,Int.reduceLT,Int.reduceAdd]
    refine aw_count (fun d S => ∃ (i : Nat) (G : AVal) (Li : List (Bool × Msg × Int)), i + d = min L.length 8 ∧ S.env 20 = .int .i64 i ∧ S.env 19 = .int .i64 (min L.length 8 : Nat) ∧ S.env 0 = .hp e 0 ∧ S.env 1 = .int .i64 T ∧ S.env 2 = .int .u32 c ∧ S.env 7 = G ∧ GotR G (outM T c s.wait i) ∧
        SlO itC 7 S.heap own w Li ∧ Li.map (·.2) = outW T s.wait i ∧ (∀ x ∈ Li, x.1 = false → x.2.1.Cells = []) ∧ Fr own h S.heap) (n := min L.length 8)
      ⟨0, .lst .nil [], L, by omega, by simp (disch:=first|assumption|omega) only[go_sem,↓reduceIte,reduceIte], by (try rw [hLe]); simp (disch:=first|assumption|omega) only[go_sem,↓reduceIte,Nat.reduceEqDiff,reduceIte]; try rfl, by simp (disch:=first|assumption|omega) only[go_sem,↓reduceIte,reduceCtorEq,reduceIte], by simp (disch:=first|assumption|omega) only[go_sem,↓reduceIte,Nat.reduceEqDiff,reduceIte], by simp (disch:=first|assumption|omega) only[go_sem,↓reduceIte,Nat.reduceEqDiff,reduceIte], by simp (disch:=first|assumption|omega) only[go_sem,↓reduceIte,Nat.reduceEqDiff,reduceIte], .inl ⟨rfl, rfl⟩, by simp (disch:=first|assumption|omega) only[go_sem]; exact h3, by rw [h4, outW_zero], h5, by simp (disch:=first|assumption|omega) only[go_sem]; exact Fr.refl _ _⟩ ?_)
  all_goals (
    rintro d S ⟨i, G, Li, hid, e20, e19, e0, e1, e2, e7, hG, hS, hLi, hfl, hfr⟩
    have hge : S.heap[e]? = some (endC self other s w g) := hfr.get h1 h2
    unfold endC at hge
    have hlen : Li.length = L.length := by have := congrArg List.length hLi; rw [List.length_map, outW_length] at this; omega
    simp (disch:=first|assumption|omega) only[e20,e19,go_sem,↓reduceIte,reduceIte]
    refine condG_if (fun hlt => ?_) fun hge' => ?_)
  · exfalso; rw [hLe] at hlt; simp at hlt
  · obtain rfl : i = min L.length 8 := by omega
    have hlw' : min L.length 8 = min s.wait.length 8 := by rw [hlw]
    rw [hlw', outM_min] at hG
    rw [hlw', outW_min] at hLi
    have hol := outM_len T c s.wait 8
    have hE2 : ∀ h', h'[e]? = some (endC self other ⟨s.next, s.want, s.wait, s.got, false⟩ w g) → Fr [e] S.heap h' → EndQ h e own self other (outS s T) h' := fun h' q1 q2 => by
      refine ⟨own, ⟨h1, w, g, Li, q1, hS.frame (S := [e]) q2 (fun i hi hm => by simp at hm; subst hm; exact h1 hi), hLi, hfl, h6⟩, (hfr.mono (fun i h => .inl (by simp [h]))).trans q2 (fun i h => .inl (by simp at h; simp [h])), fun i hi => .inl hi⟩
    unfold endC at hE2
    have hbeat : MsgOk ⟨3, self, other, s.want, c, []⟩ (.agg [.int .i64 3, .int .i64 self, .int .i64 other, .int .i64 s.want, .int .u32 c, .lst .nil []]) := ⟨.nil, ⟨.inr rfl, fun _ => rfl⟩, by simp, rfl⟩
    by_cases hw : s.owes = true
    · obtain ⟨xs, hx1, hx2, hx3⟩ := hG.push hbeat
      have hoL : outL s self other T c = outM T c s.wait 8 ++ [⟨3, self, other, s.want, c, []⟩] := by unfold outL; rw [if_pos hw]
      have hfin := hE2 _ (get_set hge) (Fr.set (by simp))
      rcases hx2 with ⟨rfl, rfl⟩ | rfl
      · simp (disch:=first|assumption|omega) only[e0,e2,e7,hge,hw,get_set hge,go_sem,↓reduceIte,Nat.reduceEqDiff,reduceCtorEq,Nat.reduceAdd,Nat.reduceLeDiff,Nat.reduceLT,reduceIte,Int.reduceLT,Int.reduceAdd,Int.reduceMul,Nat.reduceMul]
        subst hQ
        simp (disch:=first|assumption|omega) only[R.link_End_Out,hoL,go_sem,↓reduceIte,reduceIte]
        exact ⟨.inr ⟨_, rfl, hx1⟩, hfin⟩
      · simp (disch:=first|assumption|omega) only[e0,e2,e7,hge,hw,get_set hge,go_sem,↓reduceIte,Nat.reduceEqDiff,reduceCtorEq,Nat.reduceAdd,Nat.reduceLeDiff,Nat.reduceLT,reduceIte,Int.reduceLT,Int.reduceAdd,Int.reduceMul,Nat.reduceMul]
        refine ⟨by omega, by omega, ?_⟩
        subst hQ
        simp (disch:=first|assumption|omega) only[R.link_End_Out,hoL,go_sem,↓reduceIte,reduceIte]
        exact ⟨.inr ⟨_, rfl, hx1⟩, hfin⟩
    · have hw : s.owes = false := by simpa using hw
      have hoL : outL s self other T c = outM T c s.wait 8 := by unfold outL; rw [hw]; simp
      have hfin := hE2 S.heap (by rw [hge, hw]) (Fr.refl _ _)
      rcases hG with ⟨rfl, hx2⟩ | ⟨xs, rfl, hx2⟩
      · simp (disch:=first|assumption|omega) only[e0,e7,hge,hw,go_sem,↓reduceIte,Nat.reduceEqDiff,reduceCtorEq,Nat.reduceAdd,Nat.reduceLeDiff,Nat.reduceLT,reduceIte,Int.reduceLT,Int.reduceAdd]
        subst hQ
        simp (disch:=first|assumption|omega) only[R.link_End_Out,hoL,go_sem,↓reduceIte,reduceIte]
        exact ⟨.inl ⟨rfl, hx2⟩, hfin⟩
      · simp (disch:=first|assumption|omega) only[e0,e7,hge,hw,go_sem,↓reduceIte,Nat.reduceEqDiff,reduceCtorEq,Nat.reduceAdd,Nat.reduceLeDiff,Nat.reduceLT,reduceIte,Int.reduceLT,Int.reduceAdd]
        subst hQ
        simp (disch:=first|assumption|omega) only[R.link_End_Out,hoL,go_sem,↓reduceIte,reduceIte]
        exact ⟨.inr ⟨_, rfl, hx2⟩, hfin⟩
  · have hi1 : i < Li.length := by omega
    have hi2 : i < s.wait.length := by omega
    rcases hS.cases with ⟨hh, _⟩ | ⟨id', off', cap', hwe', hcp', hi', hsr'⟩
    · rw [hwe] at hh; cases hh
    rw [hwe] at hwe'
    simp only[AVal.ref.injEq] at hwe'
    obtain ⟨rfl, rfl, _, rfl⟩ := hwe'
    rw [hwe] at hge
    rw [hwe] at hsr'
    obtain ⟨cs, c1, c2, c3, c4, c5⟩ := hsr'.get itC_len (Nat.lt_of_le_of_lt (Nat.zero_le i) hi1)
    have hie : e ≠ id := fun h => h1 (h ▸ hi)
    have hxw : Li[i].2 = s.wait[i] := by
      have e1 : (Li.map (·.2))[i]? = (outW T s.wait i)[i]? := by rw [hLi]
      have hl : i < (outW T s.wait i).length := by rw [outW_length]; exact hi2
      rw [List.getElem?_map, List.getElem?_eq_getElem hi1, List.getElem?_eq_getElem hl, outW_get hi2 hl] at e1
      simpa using e1
    have hb := hs.wcell _ (List.getElem_mem hi2)
    have hx6 : cs.getD (off + i * 7 + 6) .junk = .int .i64 s.wait[i].2 := by rw [getD_of_take (c4 i hi1 6 1 (by omega)), ← hxw]; rfl
    have hil : (i : Int) < L.length := by omega
    by_cases hd : due T s.wait[i] = true
    · have hst := outW_step (t := T) hi2
      have hsm := outM_step (t := T) (c := c) hi2
      rw [if_pos hd] at hsm
      have hd1 := hd
      simp only[due,Bool.or_eq_true,decide_eq_true_eq] at hd1
      have d3 : IntKind.i64.wrap (T - s.wait[i].2) = T - s.wait[i].2 := wrapI64 (by omega) (by omega)
      have hS2 := c5 i hi1 6 [.int .i64 T] (Li[i].1, Li[i].2.1, T) (by simp) rfl (S.heap.set id (.cells (fillV cs (off + i * 7 + 6) [.int .i64 T]))) (get_set c1)
      obtain ⟨cs2, k1, k2, _, k4, _⟩ := hS2.get itC_len (by simp only[List.length_set]; omega)
      rw [get_set c1] at k1
      simp only[Option.some.injEq,HObj.cells.injEq] at k1
      have hld := k4 i (by simp only[List.length_set]; exact hi1) 0 6 (by omega)
      simp only[Nat.add_zero,List.getElem_set_self,List.drop_zero] at hld
      have hld2 : List.take 6 (itC (Li[i].1, Li[i].2.1, T)) = msgC (ownB Li[i].1) Li[i].2.1 := rfl
      rw [hld2] at hld
      have hown := ownB_rdo Li[i].1
      have hm4 := checkF_len hb.1
      have hrdn : Rdn (ownB Li[i].1) s.wait[i].1.Cells := ⟨hown, fun e => by
        have : Li[i].1 = false := by cases hq : Li[i].1 <;> rw [hq] at e <;> first | rfl | cases e
        rw [← hxw]; exact hfl _ (List.getElem_mem hi1) this⟩
      have hx1 : Li[i].2.1 = s.wait[i].1 := by rw [← hxw]
      rw [hx1] at hld
      rw [k1] at hS2
      have f1 : SlO itC 7 (S.heap.set id (.cells cs2)) own w (Li.set i (Li[i].1, Li[i].2.1, T)) := ⟨id, by rw [hwe]; exact hS2, .inr hi'⟩
      have f2 : (Li.set i (Li[i].1, Li[i].2.1, T)).map (·.2) = outW T s.wait (i + 1) := by
        rw [List.map_set, hLi, ← hst, mark, if_pos hd, hx1]
      have f3 : ∀ x ∈ Li.set i (Li[i].1, Li[i].2.1, T), x.1 = false → x.2.1.Cells = [] := by
        intro x hx hxb
        rcases List.mem_or_eq_of_mem_set hx with hx | rfl
        · exact hfl x hx hxb
        · exact hfl Li[i] (List.getElem_mem hi1) hxb
      have f4 : Fr own h (S.heap.set id (.cells cs2)) := hfr.trans (Fr.set (S := [id]) (by simp)) (fun i h => .inl (by simp at h; subst h; exact hi'))
      have hor : (s.wait[i].2 < 0 ∧ (0 : Int) = 0) ∨ (¬s.wait[i].2 < 0 ∧ (4 : Int) ≤ T - s.wait[i].2) := by
        by_cases hneg : s.wait[i].2 < 0
        · exact .inl ⟨hneg, rfl⟩
        · exact .inr ⟨hneg, hd1.resolve_left hneg⟩
      rcases hor with ⟨hneg, hge4⟩ | ⟨hneg, hge4⟩
      all_goals (
        simp (disch:=first|assumption|omega) only[e20,e0,e1,hge,c1,hx6,hil,hneg,hge4,d3,get_set c1,k1,hld,msgC,go_sem,↓reduceIte,Nat.reduceEqDiff,reduceCtorEq,Nat.reduceAdd,Nat.reduceLeDiff,reduceIte,Int.reduceAdd]
        repeat (refine ⟨by omega, ?_⟩)
        refine callG_ok (Copy_ok (ownB Li[i].1) s.wait[i].1 hrdn (by unfold reachBytes; omega) _) (by simp (disch:=first|assumption|omega) only[go_sem]) ?_
        rintro _ _ ⟨⟨o', rfl, ho'⟩, hhh⟩
        rw [hhh]
        clear hhh
        have ho1 := ho'.1
        have hmx : MsgOk { s.wait[i].1 with Clock := c } (.agg [.int .i64 s.wait[i].1.Kind, .int .i64 s.wait[i].1.From, .int .i64 s.wait[i].1.To, .int .i64 s.wait[i].1.Seq, .int .u32 c, .lst o' (cellsA s.wait[i].1.Cells)]) := ⟨o', ho', by unfold reachBytes; simp only; omega, rfl⟩
        obtain ⟨xs, hx1, hx2, hx3⟩ := hG.push hmx
        rw [← hsm] at hx1
        have hol := outM_len T c s.wait i
        rcases hx2 with ⟨hx2, rfl⟩ | hx2
        · rw [hx2] at e7
          simp (disch:=first|assumption|omega) only[e20,e19,e0,e1,e2,e7,msgA,msgC,go_sem,↓reduceIte,Nat.reduceEqDiff,reduceCtorEq,Nat.reduceAdd,Nat.reduceLeDiff,reduceIte,Int.reduceAdd,Int.reduceMul,Nat.reduceMul]
          exact ⟨d - 1, by omega, i + 1, _, Li.set i (Li[i].1, Li[i].2.1, T), by omega, by simp, rfl, .inr ⟨_, rfl, hx1⟩, f1, f2, f3, f4⟩
        · rw [hx2] at e7
          simp (disch:=first|assumption|omega) only[e20,e19,e0,e1,e2,e7,msgA,msgC,go_sem,↓reduceIte,Nat.reduceEqDiff,reduceCtorEq,Nat.reduceAdd,Nat.reduceLeDiff,reduceIte,Int.reduceAdd,Int.reduceMul,Nat.reduceMul]
          refine ⟨by omega, by omega, ?_⟩
          exact ⟨d - 1, by omega, i + 1, _, Li.set i (Li[i].1, Li[i].2.1, T), by omega, by simp, rfl, .inr ⟨_, rfl, hx1⟩, f1, f2, f3, f4⟩)
    · have hd' : due T s.wait[i] = false := by simpa using hd
      have hst := outW_same hi2 hd'
      have hsm := outM_step (t := T) (c := c) hi2
      rw [if_neg hd, List.append_nil] at hsm
      simp only[due,Bool.or_eq_false_iff,decide_eq_false_iff_not] at hd'
      have d1 := hd'.1
      have d2 : ¬(4 : Int) ≤ T - s.wait[i].2 := hd'.2
      have d3 : IntKind.i64.wrap (T - s.wait[i].2) = T - s.wait[i].2 := wrapI64 (by omega) (by omega)
      simp (disch:=first|assumption|omega) only[e20,e19,e0,e1,e2,hge,c1,hx6,hil,d1,d2,d3,go_sem,↓reduceIte,Nat.reduceEqDiff,reduceCtorEq,Nat.reduceAdd,Nat.reduceLeDiff,reduceIte,Int.reduceAdd]
      exact ⟨by omega, by omega, d - 1, by omega, i + 1, _, Li, by omega, by simp, rfl, by rw [e7, hsm]; exact hG, hS, by rw [hst]; exact hLi, hfl, hfr⟩
  · obtain rfl : i = min L.length 8 := by omega
    have hlw' : min L.length 8 = min s.wait.length 8 := by rw [hlw]
    rw [hlw', outM_min] at hG
    rw [hlw', outW_min] at hLi
    have hol := outM_len T c s.wait 8
    have hE2 : ∀ h', h'[e]? = some (endC self other ⟨s.next, s.want, s.wait, s.got, false⟩ w g) → Fr [e] S.heap h' → EndQ h e own self other (outS s T) h' := fun h' q1 q2 => by
      refine ⟨own, ⟨h1, w, g, Li, q1, hS.frame (S := [e]) q2 (fun i hi hm => by simp at hm; subst hm; exact h1 hi), hLi, hfl, h6⟩, (hfr.mono (fun i h => .inl (by simp [h]))).trans q2 (fun i h => .inl (by simp at h; simp [h])), fun i hi => .inl hi⟩
    unfold endC at hE2
    have hbeat : MsgOk ⟨3, self, other, s.want, c, []⟩ (.agg [.int .i64 3, .int .i64 self, .int .i64 other, .int .i64 s.want, .int .u32 c, .lst .nil []]) := ⟨.nil, ⟨.inr rfl, fun _ => rfl⟩, by simp, rfl⟩
    by_cases hw : s.owes = true
    · obtain ⟨xs, hx1, hx2, hx3⟩ := hG.push hbeat
      have hoL : outL s self other T c = outM T c s.wait 8 ++ [⟨3, self, other, s.want, c, []⟩] := by unfold outL; rw [if_pos hw]
      have hfin := hE2 _ (get_set hge) (Fr.set (by simp))
      rcases hx2 with ⟨rfl, rfl⟩ | rfl
      · simp (disch:=first|assumption|omega) only[e0,e2,e7,hge,hw,get_set hge,go_sem,↓reduceIte,Nat.reduceEqDiff,reduceCtorEq,Nat.reduceAdd,Nat.reduceLeDiff,Nat.reduceLT,reduceIte,Int.reduceLT,Int.reduceAdd,Int.reduceMul,Nat.reduceMul]
        subst hQ
        simp (disch:=first|assumption|omega) only[R.link_End_Out,hoL,go_sem,↓reduceIte,reduceIte]
        exact ⟨.inr ⟨_, rfl, hx1⟩, hfin⟩
      · simp (disch:=first|assumption|omega) only[e0,e2,e7,hge,hw,get_set hge,go_sem,↓reduceIte,Nat.reduceEqDiff,reduceCtorEq,Nat.reduceAdd,Nat.reduceLeDiff,Nat.reduceLT,reduceIte,Int.reduceLT,Int.reduceAdd,Int.reduceMul,Nat.reduceMul]
        refine ⟨by omega, by omega, ?_⟩
        subst hQ
        simp (disch:=first|assumption|omega) only[R.link_End_Out,hoL,go_sem,↓reduceIte,reduceIte]
        exact ⟨.inr ⟨_, rfl, hx1⟩, hfin⟩
    · have hw : s.owes = false := by simpa using hw
      have hoL : outL s self other T c = outM T c s.wait 8 := by unfold outL; rw [hw]; simp
      have hfin := hE2 S.heap (by rw [hge, hw]) (Fr.refl _ _)
      rcases hG with ⟨rfl, hx2⟩ | ⟨xs, rfl, hx2⟩
      · simp (disch:=first|assumption|omega) only[e0,e7,hge,hw,go_sem,↓reduceIte,Nat.reduceEqDiff,reduceCtorEq,Nat.reduceAdd,Nat.reduceLeDiff,Nat.reduceLT,reduceIte,Int.reduceLT,Int.reduceAdd]
        subst hQ
        simp (disch:=first|assumption|omega) only[R.link_End_Out,hoL,go_sem,↓reduceIte,reduceIte]
        exact ⟨.inl ⟨rfl, hx2⟩, hfin⟩
      · simp (disch:=first|assumption|omega) only[e0,e7,hge,hw,go_sem,↓reduceIte,Nat.reduceEqDiff,reduceCtorEq,Nat.reduceAdd,Nat.reduceLeDiff,Nat.reduceLT,reduceIte,Int.reduceLT,Int.reduceAdd]
        subst hQ
        simp (disch:=first|assumption|omega) only[R.link_End_Out,hoL,go_sem,↓reduceIte,reduceIte]
        exact ⟨.inr ⟨_, rfl, hx2⟩, hfin⟩
end Go.Proofs.Ytpdajkbfemcdlaa
namespace Go.Proofs.Ytpdajkbfemcdlaa
open Go.Ge
theorem ok_mono {s : Lk} {n k : Int} (h : s.ok n) (hk : n ≤ k) : s.ok k := by
  obtain ⟨h1, h2, h3, h4, h5, h6, h7, h8⟩ := h
  exact ⟨h1, by omega, h3, by omega, h5, by omega, h7, h8⟩
end Go.Proofs.Ytpdajkbfemcdlaa
namespace Go.Proofs.Ytpdajkbfemcdlaa
open Go.Ge
theorem at_fault {D : List Fault} {i : Nat} (h : i < D.length) : at_ (faultsA D) (i : Int) = faultA D[i] := by
  simp [at_, faultsA, List.getD_eq_getElem?_getD, h]
def lk0 : Lk := ⟨0, 0, [], [], false⟩
theorem lk0_ok : lk0.ok 0 := ⟨by simp [lk0], by simp [lk0], by simp [lk0], by simp [lk0], by simp [lk0], by simp [lk0], by simp [lk0], by simp [lk0]⟩
end Go.Proofs.Ytpdajkbfemcdlaa
namespace Go.Proofs.Ytpdajkbfemcdlaa
open Go.Ge
def stepS (tick frm : Int) (p : Int × Int) (f : Fault) : Int × Int :=
  if f.Tick = tick then (min (if f.Kind = 0 ∧ f.N = frm then 0 else if f.Kind = 1 ∧ f.N = frm then p.1 * 2 else p.1) 2, if f.Kind = 2 ∧ 0 < f.N ∧ f.N ≤ 2000 then max p.2 f.N else p.2) else p
def sendP (fs : List Fault) (tick frm : Int) : Int × Int := fs.foldl (stepS tick frm) (1, 0)
theorem sendP_bd (fs : List Fault) (tick frm : Int) : 0 ≤ (sendP fs tick frm).1 ∧ (sendP fs tick frm).1 ≤ 2 ∧ 0 ≤ (sendP fs tick frm).2 ∧ (sendP fs tick frm).2 ≤ 2000 := by
  have key : ∀ (fs : List Fault) (p : Int × Int), 0 ≤ p.1 ∧ p.1 ≤ 2 ∧ 0 ≤ p.2 ∧ p.2 ≤ 2000 → 0 ≤ (fs.foldl (stepS tick frm) p).1 ∧ (fs.foldl (stepS tick frm) p).1 ≤ 2 ∧ 0 ≤ (fs.foldl (stepS tick frm) p).2 ∧ (fs.foldl (stepS tick frm) p).2 ≤ 2000 := by
    intro fs
    induction fs with
    | nil => intro p h; exact h
    | cons f fs ih =>
      intro p h
      rw [List.foldl_cons]
      refine ih _ ?_
      unfold stepS
      split
      · simp only
        refine ⟨?_, ?_, ?_, ?_⟩ <;> (repeat split) <;> omega
      · exact h
  exact key fs (1, 0) ⟨by decide, by decide, by decide, by decide⟩
theorem sendP_take {fs : List Fault} {tick frm : Int} {i : Nat} (h : i < fs.length) : sendP (fs.take (i + 1)) tick frm = stepS tick frm (sendP (fs.take i) tick frm) fs[i] := by
  unfold sendP
  rw [List.take_add_one, List.getElem?_eq_getElem h, List.foldl_append]; rfl
def sendE (fs : List Fault) (tk : Int) (n : Nat) (tick : Int) (m : Msg) : Int :=
  if tick < 0 ∨ 2000 < tick then 1 else if tick < tk then 9 else if checkF m ≠ 0 then checkF m else if 1000 < n + (sendP fs tick m.From).1 then 6 else 0
def NetR (h : List HObj) (nid : Nat) (fs : List Fault) (tk : Int) (Ms : List Fl) : Prop :=
  ∃ (fo : Own) (kv : AVal), h[nid]? = some (.cells [.lst fo (faultsA fs), .int .i64 tk, kv]) ∧ (∃ q, Rdo q ∧ Ge.rdc (.lst fo (faultsA fs)) = .lst q (faultsA fs)) ∧ KeptV kv Ms ∧ Ms.length ≤ 1000
theorem NetR.frame {h h' : List HObj} {nid : Nat} {fs : List Fault} {tk : Int} {Ms : List Fl} {S : List Nat} (hr : NetR h nid fs tk Ms) (hf : Fr S h h') (hn : nid ∉ S) : NetR h' nid fs tk Ms := by
  obtain ⟨fo, kv, h1, h2⟩ := hr
  exact ⟨fo, kv, hf.get hn h1, h2⟩
theorem KeptV.cases {kv : AVal} {Ms : List Fl} (hk : KeptV kv Ms) : ∃ o q, kv = .lst o (Ms.map flA) ∧ Ge.rdc kv = .lst q (Ms.map flA) ∧ Rdo q := by
  rcases hk with ⟨rfl, rfl⟩ | rfl
  · exact ⟨.nil, .nil, rfl, rfl, .inr rfl⟩
  · exact ⟨.app 7, .sh, rfl, rfl, .inl rfl⟩
theorem CloneFault_ok (o : Own) (fs : List Fault) (ho : Rdn o fs) (hl : fs.length ≤ 5864062014805) (h : List HObj) :
    ACalls Try.prog F.slices_Clone_Fault [.lst o (faultsA fs)] h (fun v h' => (∃ o' q, v = .lst o' (faultsA fs) ∧ Rdo q ∧ Ge.rdc v = .lst q (faultsA fs) ∧ (o' = .nil ∨ o' = .app 3)) ∧ h' = h) := by
  have lc : (faultsA fs).length = fs.length := by simp [faultsA]
  have h1 := ho.1
  refine ACalls.of_aw Try.func165 K.slices_Clone_Fault (by simp [Try.f165]) ?_
  generalize hQ : retQ R.slices_Clone_Fault _ = Q
  simp (disch:=first|assumption|omega) only[C.slices_Clone_Fault,go_sem,↓reduceIte,reduceCtorEq,reduceIte]
  refine aops_isnilR (o := o) (xs := faultsA fs) (by simp (disch:=first|assumption|omega) only[go_sem,↓reduceIte,reduceIte]) h1 (fun e => by have := ho.2 e; subst this; rfl) fun b hb => ?_
  cases b
  · simp (disch:=first|assumption|omega) only[lc,go_sem,↓reduceIte,Nat.reduceEqDiff,reduceCtorEq,Nat.reduceLeDiff,reduceIte]
    refine ⟨fun x hx => by obtain ⟨y, _, rfl⟩ := List.mem_map.1 hx; rfl, by omega, by omega, ?_⟩
    subst hQ
    simp (disch:=first|assumption|omega) only[R.slices_Clone_Fault,go_sem,↓reduceIte,reduceIte]
    exact ⟨_, .sh, rfl, .inl rfl, rfl, .inr rfl⟩
  · have : faultsA fs = [] := by
      refine Classical.byContradiction fun h0 => ?_
      have := hb h0
      cases this
    simp (disch:=first|assumption|omega) only[go_sem,↓reduceIte,reduceIte]
    subst hQ
    simp (disch:=first|assumption|omega) only[R.slices_Clone_Fault,go_sem,↓reduceIte,reduceIte]
    exact ⟨.nil, .nil, by rw [this], .inr rfl, by rw [this], .inl rfl⟩
theorem NetNew_ok (o : Own) (fs : List Fault) (ho : Rdn o fs) (hl : fs.length ≤ 5864062014805) (h : List HObj) :
    ACalls Try.prog F.net_New [.lst o (faultsA fs)] h (fun v h' => v = .hp h.length 0 ∧ (∃ x, h' = h ++ [x]) ∧ NetR h' h.length fs 0 []) := by
  have lc : (faultsA fs).length = fs.length := by simp [faultsA]
  have h1 := ho.1
  refine ACalls.of_aw Try.func84 K.net_New (by simp [Try.f84]) ?_
  generalize hQ : retQ R.net_New _ = Q
  simp (disch:=first|assumption|omega) only[C.net_New,go_sem,↓reduceIte,reduceCtorEq,reduceIte]
  rcases h1 with rfl | rfl
  all_goals
    refine callG_ok (CloneFault_ok _ fs ho hl _) (by simp (disch:=first|assumption|omega) only[go_sem]) ?_
    rintro _ _ ⟨⟨o', q, rfl, hq, hrd, hc⟩, hhh⟩
    rw [hhh]
    clear hhh
    rcases hc with rfl | rfl
    all_goals
      simp (disch:=first|assumption|omega) only[go_sem,↓reduceIte,Nat.reduceAdd,Nat.reduceLeDiff,reduceIte,Int.reduceAdd]
      subst hQ
      simp (disch:=first|assumption|omega) only[R.net_New,go_sem,↓reduceIte,reduceIte]
      exact ⟨⟨_, rfl⟩, _, _, List.getElem?_concat_length, by first | exact ⟨.sh, .inl rfl, rfl⟩ | exact ⟨.nil, .inr rfl, rfl⟩, .inl ⟨rfl, rfl⟩, by simp⟩
theorem NetSend_ok (nid : Nat) (fs : List Fault) (tk tick : Int) (Ms : List Fl) (q : Own) (m : Msg) (hq : Rdn q m.Cells) (hl : m.Cells.length * 16 ≤ reachBytes) (hfl : fs.length ≤ 5864062014805) (h : List HObj) (hr : NetR h nid fs tk Ms) :
    ACalls Try.prog F.net_Net_Send [.hp nid 0, .int .i64 tick, msgA q m] h (fun v h' => v = .int .i64 (sendE fs tk Ms.length tick m) ∧ (sendE fs tk Ms.length tick m ≠ 0 → h' = h) ∧
      (sendE fs tk Ms.length tick m = 0 → Fr [nid] h h' ∧ ∃ Ns : List Fl, Ns.map (·.2) = List.replicate (sendP fs tick m.From).1.toNat (m, tick + 1 + (sendP fs tick m.From).2) ∧ (∀ x ∈ Ns, x.1 = false → x.2.1.Cells = []) ∧ NetR h' nid fs tick (Ms ++ Ns))) := by
  obtain ⟨fo, kv, h1, ⟨qf, hqf, hrf⟩, hk, hml⟩ := hr
  have hlf : (faultsA fs).length = fs.length := by simp [faultsA]
  have hq1 := hq.1
  have hbd := sendP_bd fs tick m.From
  have hsm : storable (msgA q m) = true := by rcases hq1 with rfl | rfl <;> rfl
  refine ACalls.of_aw Try.func85 K.net_Net_Send (by simp [Try.f85]) ?_
  generalize hQ : retQ R.net_Net_Send _ = Q
  simp (disch:=first|assumption|omega) only[C.net_Net_Send,go_sem,↓reduceIte,Nat.reduceEqDiff,reduceIte]
  by_cases a1 : tick < 0
  · have e : sendE fs tk Ms.length tick m = 1 := by unfold sendE; rw [if_pos (.inl a1)]
    simp (disch:=first|assumption|omega) only[hsm,a1,go_sem,↓reduceIte,Nat.reduceEqDiff,reduceIte]
    subst hQ
    simp (disch:=first|assumption|omega) only[R.net_Net_Send,e,go_sem,↓reduceIte,reduceIte,Int.reduceEq,Int.reduceNe]
  by_cases a2 : 2000 < tick
  · have e : sendE fs tk Ms.length tick m = 1 := by unfold sendE; rw [if_pos (.inr a2)]
    simp (disch:=first|assumption|omega) only[hsm,a1,a2,go_sem,↓reduceIte,Nat.reduceEqDiff,reduceIte]
    subst hQ
    simp (disch:=first|assumption|omega) only[R.net_Net_Send,e,go_sem,↓reduceIte,reduceIte,Int.reduceEq,Int.reduceNe]
  by_cases a3 : tick < tk
  · have e : sendE fs tk Ms.length tick m = 9 := by unfold sendE; rw [if_neg (by omega), if_pos a3]
    simp (disch:=first|assumption|omega) only[hsm,a1,a2,a3,h1,go_sem,↓reduceIte,Nat.reduceEqDiff,reduceCtorEq,Nat.reduceAdd,Nat.reduceLeDiff,reduceIte,Int.reduceAdd]
    subst hQ
    simp (disch:=first|assumption|omega) only[R.net_Net_Send,e,go_sem,↓reduceIte,reduceIte,Int.reduceEq,Int.reduceNe]
  simp (disch:=first|assumption|omega) only[a1,a2,a3,h1,msgA,msgC,go_sem,↓reduceIte,Nat.reduceEqDiff,reduceCtorEq,Nat.reduceAdd,Nat.reduceLeDiff,reduceIte,Int.reduceAdd]
  refine callG_ok (Check_ok q m hq1 (by unfold reachBytes at hl; omega) _) (by simp (disch:=first|assumption|omega) only[go_sem]) ?_
  rintro _ _ ⟨rfl, hhh⟩
  rw [hhh]
  clear hhh
  by_cases hc : checkF m = 0
  · simp (disch:=first|assumption|omega) only[hc,h1,hrf,hlf,go_sem,↓reduceIte,reduceCtorEq,Nat.reduceAdd,Nat.reduceLeDiff,reduceIte,Int.reduceAdd]
    refine aw_count (fun d S => ∃ (i : Nat), i + d = fs.length ∧ S.env 34 = .int .i64 i ∧ S.env 33 = .int .i64 fs.length ∧ S.env 32 = .lst qf (faultsA fs) ∧ S.env 0 = .hp nid 0 ∧ S.env 1 = .int .i64 tick ∧ S.env 5 = .box 5 0 ∧ S.boxes 5 = some (msgC q m) ∧ S.env 8 = .int .i64 (sendP (fs.take i) tick m.From).1 ∧ S.env 9 = .int .i64 (sendP (fs.take i) tick m.From).2 ∧ S.heap = h) (n := fs.length)
      ⟨0, by omega, by simp (disch:=first|assumption|omega) only[go_sem,↓reduceIte,reduceIte], by simp (disch:=first|assumption|omega) only[go_sem,↓reduceIte,Nat.reduceEqDiff,reduceIte], by simp (disch:=first|assumption|omega) only[go_sem,↓reduceIte,Nat.reduceEqDiff,reduceIte], by simp (disch:=first|assumption|omega) only[go_sem,↓reduceIte,reduceCtorEq,reduceIte], by simp (disch:=first|assumption|omega) only[go_sem,↓reduceIte,Nat.reduceEqDiff,reduceIte], by simp (disch:=first|assumption|omega) only[go_sem,↓reduceIte,Nat.reduceEqDiff,reduceIte], by simp (disch:=first|assumption|omega) only[msgC,go_sem,↓reduceIte,reduceIte], by simp (disch:=first|assumption|omega) only[go_sem,↓reduceIte,Nat.reduceEqDiff,reduceIte]; rfl, by simp (disch:=first|assumption|omega) only[go_sem,↓reduceIte,Nat.reduceEqDiff,reduceIte]; rfl, by simp (disch:=first|assumption|omega) only[go_sem]⟩ ?_
    rintro d S ⟨i, hi, e34, e33, e32, e0, e1, e5, b5, e8, e9, eh⟩
    by_cases hlt : (i : Int) < fs.length
    · have hi1 : i < fs.length := by omega
      have hat := at_fault hi1
      have hstp := sendP_take (tick := tick) (frm := m.From) hi1
      have hb := sendP_bd (fs.take i) tick m.From
      have hr34 : fs.length < 9223372036854775807 := by omega
      generalize fs[i] = f at *
      generalize hP : sendP (fs.take i) tick m.From = P at *
      obtain ⟨c, l⟩ := P
      simp only at hb
      unfold stepS at hstp
      by_cases c0 : f.Tick = tick
      · rw [if_pos c0] at hstp
        by_cases c1 : f.Kind = 0
        · by_cases c2 : f.N = m.From
          · simp (disch:=first|assumption|omega) only[e34,e33,e32,e0,e1,e5,b5,e9,eh,hlt,hat,faultA,c0,c1,c2,hlf,msgC,go_sem,↓reduceIte,Nat.reduceEqDiff,reduceCtorEq,Nat.reduceAdd,Nat.reduceLeDiff,Nat.reduceLT,reduceIte,Int.reduceLT,Int.reduceAdd]
            refine ⟨d - 1, by omega, i + 1, by omega, by simp, ?_, ?_⟩ <;> (rw [hstp]; refine congrArg (AVal.int .i64) ?_; dsimp only; (repeat split) <;> omega)
          · simp (disch:=first|assumption|omega) only[e34,e33,e32,e0,e1,e5,b5,e8,e9,eh,hlt,hat,faultA,c0,c1,c2,hlf,msgC,go_sem,↓reduceIte,Nat.reduceEqDiff,reduceCtorEq,Nat.reduceAdd,Nat.reduceLeDiff,Nat.reduceLT,reduceIte,Int.reduceLT,Int.reduceAdd,Int.reduceEq]
            refine ⟨d - 1, by omega, i + 1, by omega, by simp, ?_, ?_⟩ <;> (rw [hstp]; refine congrArg (AVal.int .i64) ?_; dsimp only; (repeat split) <;> omega)
        · by_cases c3 : f.Kind = 1
          · by_cases c2 : f.N = m.From
            · have hw : IntKind.i64.wrap (c * 2) = c * 2 := wrapI64 (by omega) (by omega)
              simp (disch:=first|assumption|omega) only[e34,e33,e32,e0,e1,e5,b5,e8,e9,eh,hlt,hat,faultA,c0,c3,c2,hw,hlf,msgC,go_sem,↓reduceIte,Nat.reduceEqDiff,reduceCtorEq,Nat.reduceAdd,Nat.reduceLeDiff,Nat.reduceLT,reduceIte,Int.reduceLT,Int.reduceAdd,Int.reduceEq]
              refine ⟨d - 1, by omega, i + 1, by omega, by simp, ?_, ?_⟩ <;> (rw [hstp]; refine congrArg (AVal.int .i64) ?_; dsimp only; (repeat split) <;> omega)
            · simp (disch:=first|assumption|omega) only[e34,e33,e32,e0,e1,e5,b5,e8,e9,eh,hlt,hat,faultA,c0,c3,c2,hlf,msgC,go_sem,↓reduceIte,Nat.reduceEqDiff,reduceCtorEq,Nat.reduceAdd,Nat.reduceLeDiff,Nat.reduceLT,reduceIte,Int.reduceLT,Int.reduceAdd,Int.reduceEq]
              refine ⟨d - 1, by omega, i + 1, by omega, by simp, ?_, ?_⟩ <;> (rw [hstp]; refine congrArg (AVal.int .i64) ?_; dsimp only; (repeat split) <;> omega)
          · by_cases c4 : f.Kind = 2
            · by_cases c5 : 0 < f.N
              · by_cases c6 : f.N ≤ 2000
                · simp (disch:=first|assumption|omega) only[e34,e33,e32,e0,e1,e5,b5,e8,e9,eh,hlt,hat,faultA,c0,c4,c5,c6,hlf,msgC,go_sem,↓reduceIte,Nat.reduceEqDiff,reduceCtorEq,Nat.reduceAdd,Nat.reduceLeDiff,Nat.reduceLT,reduceIte,Int.reduceLT,Int.reduceAdd,Int.reduceEq]
                  refine ⟨d - 1, by omega, i + 1, by omega, by simp, ?_, ?_⟩ <;> (rw [hstp]; refine congrArg (AVal.int .i64) ?_; dsimp only; (repeat split) <;> omega)
                · simp (disch:=first|assumption|omega) only[e34,e33,e32,e0,e1,e5,b5,e8,e9,eh,hlt,hat,faultA,c0,c4,c5,c6,hlf,msgC,go_sem,↓reduceIte,Nat.reduceEqDiff,reduceCtorEq,Nat.reduceAdd,Nat.reduceLeDiff,Nat.reduceLT,reduceIte,Int.reduceLT,Int.reduceAdd,Int.reduceEq]
                  refine ⟨d - 1, by omega, i + 1, by omega, by simp, ?_, ?_⟩ <;> (rw [hstp]; refine congrArg (AVal.int .i64) ?_; dsimp only; (repeat split) <;> omega)
              · simp (disch:=first|assumption|omega) only[e34,e33,e32,e0,e1,e5,b5,e8,e9,eh,hlt,hat,faultA,c0,c4,c5,hlf,msgC,go_sem,↓reduceIte,Nat.reduceEqDiff,reduceCtorEq,Nat.reduceAdd,Nat.reduceLeDiff,Nat.reduceLT,reduceIte,Int.reduceLT,Int.reduceAdd,Int.reduceEq]
                refine ⟨d - 1, by omega, i + 1, by omega, by simp, ?_, ?_⟩ <;> (rw [hstp]; refine congrArg (AVal.int .i64) ?_; dsimp only; (repeat split) <;> omega)
            · simp (disch:=first|assumption|omega) only[e34,e33,e32,e0,e1,e5,b5,e8,e9,eh,hlt,hat,faultA,c0,c1,c3,c4,hlf,msgC,go_sem,↓reduceIte,Nat.reduceEqDiff,reduceCtorEq,Nat.reduceAdd,Nat.reduceLeDiff,reduceIte,Int.reduceAdd]
              refine ⟨d - 1, by omega, i + 1, by omega, by simp, ?_, ?_⟩ <;> (rw [hstp]; refine congrArg (AVal.int .i64) ?_; dsimp only; (repeat split) <;> omega)
      · rw [if_neg c0] at hstp
        simp (disch:=first|assumption|omega) only[e34,e33,e32,e0,e1,e5,b5,e8,e9,eh,hlt,hat,faultA,c0,hlf,msgC,go_sem,↓reduceIte,Nat.reduceEqDiff,reduceCtorEq,Nat.reduceAdd,Nat.reduceLeDiff,reduceIte,Int.reduceAdd]
        exact ⟨d - 1, by omega, i + 1, by omega, by simp, by rw [hstp], by rw [hstp]⟩
    · obtain rfl : i = fs.length := by omega
      rw [List.take_length] at e8 e9
      obtain ⟨o, qk, rfl, hrk, hqk⟩ := hk.cases
      have hlm : (Ms.map flA).length = Ms.length := List.length_map _
      obtain ⟨⟨c, l⟩, hP⟩ : ∃ p, sendP fs tick m.From = p := ⟨_, rfl⟩
      rw [hP] at hbd e8 e9
      simp only at hbd e8 e9
      have hs1 : sendE fs tk Ms.length tick m = if 1000 < (Ms.length : Int) + c then 6 else 0 := by
        unfold sendE; rw [if_neg (by omega), if_neg a3, if_neg (by simp [hc]), hP]
      by_cases c1 : 1000 < (Ms.length : Int) + c
      · rw [if_pos c1] at hs1
        simp (disch:=first|assumption|omega) only[e34,e33,e0,e8,eh,hlt,e8,h1,hrk,hlm,c1,go_sem,↓reduceIte,Nat.reduceEqDiff,reduceCtorEq,Nat.reduceAdd,Nat.reduceLeDiff,Nat.reduceLT,reduceIte,Int.reduceLT,Int.reduceAdd]
        subst hQ
        simp (disch:=first|assumption|omega) only[R.net_Net_Send,hs1,go_sem,↓reduceIte,reduceIte,Int.reduceEq,Int.reduceNe]
        exact eh
      · rw [if_neg c1] at hs1
        simp (disch:=first|assumption|omega) only[e34,e33,e0,e1,e8,eh,hlt,e8,h1,hrk,hlm,c1,fillV,go_sem,↓reduceIte,Nat.reduceEqDiff,reduceCtorEq,Nat.reduceAdd,Nat.reduceLeDiff,Nat.reduceLT,reduceIte,Int.reduceLT,Int.reduceAdd]
        have hnl := lt_of_get h1
        have hset : ∀ X, (h.set nid X)[nid]? = some X := fun X => List.getElem?_set_self hnl
        refine aw_count (fun d S2 => ∃ (i : Nat) (kv : AVal) (Ns : List Fl), i + d = c.toNat ∧ S2.env 100 = .int .i64 i ∧ S2.env 99 = .int .i64 c ∧ S2.env 0 = .hp nid 0 ∧ S2.env 1 = .int .i64 tick ∧ S2.env 5 = .box 5 0 ∧ S2.boxes 5 = some (msgC q m) ∧ S2.env 9 = .int .i64 l ∧ S2.heap = h.set nid (.cells [.lst fo (faultsA fs), .int .i64 tick, kv]) ∧ KeptV kv (Ms ++ Ns) ∧ Ns.map (·.2) = List.replicate i (m, tick + 1 + l) ∧ (∀ x ∈ Ns, x.1 = false → x.2.1.Cells = [])) (n := c.toNat)
          ⟨0, .lst o (Ms.map flA), [], by omega, by simp (disch:=first|assumption|omega) only[go_sem,↓reduceIte,reduceIte], by simp (disch:=first|assumption|omega) only[go_sem,↓reduceIte,Nat.reduceEqDiff,reduceIte], by simp (disch:=first|assumption|omega) only[e0,go_sem,↓reduceIte,reduceCtorEq,reduceIte], by simp (disch:=first|assumption|omega) only[e1,go_sem,↓reduceIte,Nat.reduceEqDiff,reduceIte], by simp (disch:=first|assumption|omega) only[e5,go_sem,↓reduceIte,Nat.reduceEqDiff,reduceIte], by simp (disch:=first|assumption|omega) only[b5,go_sem], by simp (disch:=first|assumption|omega) only[e9,go_sem,↓reduceIte,Nat.reduceEqDiff,reduceIte], by simp (disch:=first|assumption|omega) only[go_sem], by rw [List.append_nil]; exact hk, rfl, fun x hx => by cases hx⟩ ?_
        clear e34 e33 e32 e0 e1 e5 b5 e8 e9 eh hlt hrk hqk hk
        rintro d2 S2 ⟨i, kv, Ns, hi2, g100, g99, g0, g1, g5, gb5, g9, gh, hk, hNs, hNb⟩
        by_cases hlt : (i : Int) < c
        · have hw : IntKind.i64.wrap (tick + 1 + l) = tick + 1 + l := wrapI64 (by omega) (by omega)
          have hNl : Ns.length = i := by simpa using congrArg List.length hNs
          have hlm2 : ((Ms ++ Ns).map flA).length = Ms.length + i := by rw [List.length_map, List.length_append, hNl]
          have hNs2 : ∀ b, (Ns ++ [((b, m, tick + 1 + l) : Fl)]).map (·.2) = List.replicate (i + 1) (m, tick + 1 + l) := fun b => by
            rw [List.map_append, hNs, List.replicate_succ']; rfl
          have hNb2 : ∀ b, (b = false → m.Cells = []) → ∀ x ∈ Ns ++ [((b, m, tick + 1 + l) : Fl)], x.1 = false → x.2.1.Cells = [] := fun b hb x hx => by
            rcases List.mem_append.1 hx with hx | hx
            · exact hNb x hx
            · simp at hx; subst hx; exact hb
          have hKn : ∀ b, Ms ++ (Ns ++ [((b, m, tick + 1 + l) : Fl)]) = (Ms ++ Ns) ++ [(b, m, tick + 1 + l)] := fun b => (List.append_assoc _ _ _).symm
          rcases hk with ⟨rfl, hk0⟩ | rfl
          · simp (disch:=first|assumption|omega) only[g100,g99,g0,g1,g5,gb5,g9,gh,hlt,hw,hset,msgC,go_sem,↓reduceIte,Nat.reduceEqDiff,reduceCtorEq,Nat.reduceAdd,Nat.reduceLeDiff,Nat.reduceLT,reduceIte,Int.reduceLT,Int.reduceAdd]
            refine callpG_ok (R := fun r => ∃ o', r = msgA o' m ∧ Rdn o' m.Cells) (fun hp' => ACalls.mono (Copy_ok q m hq (by unfold reachBytes at hl ⊢; omega) hp') fun r h' hh => ⟨hh.2, hh.1⟩) (by simp (disch:=first|assumption|omega) only[go_sem]) ?_
            rintro _ ⟨o', rfl, ho'⟩
            obtain ⟨b, rfl, hb⟩ := own_cases ho'
            have hbo := ownB_rdo b
            simp (disch:=first|assumption|omega) only[g100,g99,g0,g1,g5,gb5,g9,msgA,msgC,List.set_set,hset,fillV,go_sem,↓reduceIte,Nat.reduceEqDiff,reduceCtorEq,Nat.reduceAdd,Nat.reduceLeDiff,reduceIte,Int.reduceAdd,Int.reduceMul,Nat.reduceMul]
            exact ⟨d2 - 1, by omega, i + 1, _, _, by omega, by simp, rfl, .inr (by rw [hKn b, hk0]; rfl), hNs2 b, hNb2 b hb⟩
          · simp (disch:=first|assumption|omega) only[g100,g99,g0,g1,g5,gb5,g9,gh,hlt,hw,hset,msgC,go_sem,↓reduceIte,Nat.reduceEqDiff,reduceCtorEq,Nat.reduceAdd,Nat.reduceLeDiff,Nat.reduceLT,reduceIte,Int.reduceLT,Int.reduceAdd]
            refine callpG_ok (R := fun r => ∃ o', r = msgA o' m ∧ Rdn o' m.Cells) (fun hp' => ACalls.mono (Copy_ok q m hq (by unfold reachBytes at hl ⊢; omega) hp') fun r h' hh => ⟨hh.2, hh.1⟩) (by simp (disch:=first|assumption|omega) only[go_sem]) ?_
            rintro _ ⟨o', rfl, ho'⟩
            obtain ⟨b, rfl, hb⟩ := own_cases ho'
            have hbo := ownB_rdo b
            simp (disch:=first|assumption|omega) only[g100,g99,g0,g1,g5,gb5,g9,hlm2,msgA,msgC,List.set_set,hset,fillV,go_sem,↓reduceIte,Nat.reduceEqDiff,reduceCtorEq,Nat.reduceAdd,Nat.reduceLeDiff,reduceIte,Int.reduceAdd,Int.reduceMul,Nat.reduceMul]
            exact ⟨by omega, by omega, d2 - 1, by omega, i + 1, _, _, by omega, by simp, rfl, .inr (by rw [hKn b, List.map_append (l₁ := Ms ++ Ns)]; rfl), hNs2 b, hNb2 b hb⟩
        · simp (disch:=first|assumption|omega) only[g100,g99,hlt,go_sem,↓reduceIte,reduceIte]
          obtain rfl : i = c.toNat := by omega
          subst hQ
          simp (disch:=first|assumption|omega) only[R.net_Net_Send,hs1,go_sem,↓reduceIte,reduceIte,Int.reduceNe]
          exact ⟨by rw [gh]; exact Fr.set (by simp), Ns, by rw [hP]; exact hNs, hNb, fo, kv, by rw [gh]; exact hset _, ⟨qf, hqf, hrf⟩, hk, by have hNl := congrArg List.length hNs; rw [List.length_map, List.length_replicate] at hNl; rw [List.length_append]; omega⟩
  · have e : sendE fs tk Ms.length tick m = checkF m := by unfold sendE; rw [if_neg (by omega), if_neg a3, if_pos hc]
    simp (disch:=first|assumption|omega) only[hc,go_sem,↓reduceIte,Nat.reduceEqDiff,reduceIte]
    subst hQ
    simp (disch:=first|assumption|omega) only[R.net_Net_Send,e,go_sem,↓reduceIte,reduceIte]
    exact fun e0 => absurd e0 hc
end Go.Proofs.Ytpdajkbfemcdlaa
namespace Go.Proofs.Ytpdajkbfemcdlaa
open Go.Ge
theorem NetTakeS_ok (nid : Nat) (fv kv : AVal) (tk tick to : Int) (Ms : List Fl) (hok : ∀ x ∈ Ms, OkF x) (hk : KeptV kv Ms) (hl : Ms.length ≤ 1000) (hfv : noBox fv = true) (h : List HObj) (hn : h[nid]? = some (.cells [fv, .int .i64 tk, kv])) :
    ACalls Try.prog F.net_Net_Take [.hp nid 0, .int .i64 tick, .int .i64 to] h (fun v h' => ∃ (L' : List Fl) (kv' : AVal), St (Ms.filter (isHere to tick)) L' ∧ OutV v L' ∧ KeptV kv' (Ms.filter fun x => !isHere to tick x) ∧ h'[nid]? = some (.cells [fv, .int .i64 tk, kv']) ∧ Fr [nid] h h') := by
  have hnl := lt_of_get hn
  have hkq : ∃ o q, kv = .lst o (Ms.map flA) ∧ Ge.rdc kv = .lst q (Ms.map flA) ∧ Rdo q := by
    rcases hk with ⟨rfl, rfl⟩ | rfl
    · exact ⟨.nil, .nil, rfl, rfl, .inr rfl⟩
    · exact ⟨.app 7, .sh, rfl, rfl, .inl rfl⟩
  obtain ⟨o, q, rfl, hrk, hq⟩ := hkq
  have hlm : (Ms.map flA).length = Ms.length := List.length_map _
  refine ACalls.of_aw Try.func87 K.net_Net_Take (by simp [Try.f87]) ?_
  generalize hQ : retQ R.net_Net_Take _ = Q
  simp (disch:=first|assumption|omega) only[C.net_Net_Take,go_sem,↓reduceIte,reduceCtorEq,Nat.reduceLeDiff,reduceIte]
  simp (disch:=first|assumption|omega) only[hn,hrk,go_sem,Nat.reduceAdd,Nat.reduceLT,Int.reduceLT,Int.reduceAdd]
  refine aw_count (fun d S => ∃ (i id : Nat) (w : AVal), i + d = Ms.length ∧ S.env 19 = .int .i64 i ∧ S.env 18 = .int .i64 Ms.length ∧ S.env 17 = .lst q (Ms.map flA) ∧ S.env 0 = .hp nid 0 ∧ S.env 1 = .int .i64 tick ∧ S.env 2 = .int .i64 to ∧ S.env 7 = w ∧ Row0 S.heap w ((Ms.take i).filter (isHere to tick)) id ∧ (w = .lst .nil [] ∨ h.length ≤ id) ∧ KeptV (S.env 8) ((Ms.take i).filter fun x => !isHere to tick x) ∧ Fr [] h S.heap) (n := Ms.length)
    ⟨0, 0, .lst .nil [], by omega, by simp (disch:=first|assumption|omega) only[go_sem,↓reduceIte,reduceIte], by simp (disch:=first|assumption|omega) only[hlm,go_sem,↓reduceIte,Nat.reduceEqDiff,reduceIte], by simp (disch:=first|assumption|omega) only[go_sem,↓reduceIte,Nat.reduceEqDiff,reduceIte], by simp (disch:=first|assumption|omega) only[go_sem,↓reduceIte,reduceCtorEq,reduceIte], by simp (disch:=first|assumption|omega) only[go_sem,↓reduceIte,Nat.reduceEqDiff,reduceIte], by simp (disch:=first|assumption|omega) only[go_sem,↓reduceIte,Nat.reduceEqDiff,reduceIte], by simp (disch:=first|assumption|omega) only[go_sem,↓reduceIte,Nat.reduceEqDiff,reduceIte], .inl ⟨rfl, rfl⟩, .inl rfl, .inl ⟨by simp (disch:=first|assumption|omega) only[go_sem,↓reduceIte,Nat.reduceEqDiff,reduceIte], rfl⟩, by simp (disch:=first|assumption|omega) only[go_sem]; exact Fr.refl _ _⟩ ?_
  rintro d S ⟨i, id, w, hi, e19, e18, e17, e0, e1, e2, e7, hrow, hid, hkv, hfr⟩
  by_cases hlt : (i : Int) < Ms.length
  · have hi1 : i < Ms.length := by omega
    have hat := at_fl hi1
    have hh := filter_take (p := isHere to tick) hi1
    have hr := filter_take (p := fun x => !isHere to tick x) hi1
    have hli : ((Ms.take i).filter fun x => !isHere to tick x).length ≤ 1000 := Nat.le_trans (List.length_filter_le _ _) (by rw [List.length_take]; omega)
    have hlh : ((Ms.take i).filter (isHere to tick)).length ≤ 1000 := Nat.le_trans (List.length_filter_le _ _) (by rw [List.length_take]; omega)
    have hll : ∀ {w' : AVal} {h' : List HObj} {id' : Nat}, (Fr [] S.heap h' ∧ id' = S.heap.length ∨ Fr [id] S.heap h' ∧ id' = id ∧ w ≠ .lst .nil []) → Fr [] h h' ∧ h.length ≤ id' := by
      intro w' h' id' hc
      rcases hc with ⟨hf, rfl⟩ | ⟨hf, rfl, hne⟩
      · exact ⟨hfr.trans hf (by simp), hfr.1⟩
      · have := hid.resolve_left hne
        exact ⟨hfr.trans hf (fun j hj => by simp at hj; exact .inr (hj ▸ this)), this⟩
    generalize Ms[i] = x at *
    have hob := ownB_rdo x.1
    have hst := flC_all x
    obtain ⟨bx, mx, ux⟩ := x
    have hfx : flC (bx, mx, ux) = [.int .i64 ux, .int .i64 mx.Kind, .int .i64 mx.From, .int .i64 mx.To, .int .i64 mx.Seq, .int .u32 mx.Clock, .lst (ownB bx) (cellsA mx.Cells)] := rfl
    rw [hfx] at hat hst
    simp only at hob
    have hw7 : w = .lst .nil [] ∨ ∃ n cap, w = .ref id 0 n cap := hrow.imp (·.1) (fun ⟨cap, _, e, _⟩ => ⟨_, cap, e⟩)
    have hdr : ∀ a b c d, drV 10 (.ref a b c d) = .ref a b c d := fun _ _ _ _ => rfl
    have hdl : ∀ o l, drV 10 (.lst o l) = .lst o l := fun _ _ => rfl
    by_cases c1 : mx.To = to
    · by_cases c2 : ux ≤ tick
      · subst c1
        have hv : isHere mx.To tick (bx, mx, ux) = true := by simp [isHere, c2]
        rw [hv, if_pos rfl] at hh
        rw [hv, if_neg (by simp), List.append_nil] at hr
        rcases hkv with ⟨e8, e8'⟩ | e8
        all_goals
          rcases hw7 with rfl | ⟨n7, cap7, rfl⟩
          all_goals
            simp (disch:=first|assumption|omega) only[e19,e18,e17,e1,e2,e7,hlt,hat,c2,hlm,fillV,hdr,go_sem,↓reduceIte,Nat.reduceEqDiff,Nat.reduceAdd,Nat.reduceLeDiff,reduceIte,Int.reduceAdd,Int.reduceMul,Nat.reduceMul]
            rw [aops_hop]
            refine Row0.push (a := (bx, mx, ux)) (by simp (disch:=first|assumption|omega) only[go_sem]; exact hrow) (o := .sh) (v := .agg (flC (bx, mx, ux))) (by simp (disch:=first|assumption|omega) only[go_sem,↓reduceIte,Nat.reduceEqDiff,reduceIte]) (by simp (disch:=first|assumption|omega) only[hfx,go_sem,↓reduceIte,reduceIte]) rfl rfl (by omega) ?_
            rintro w' h' id' hrow' ⟨cap', rfl⟩ hc
            obtain ⟨hf2, hid2⟩ := hll (w' := .lst .nil []) (by simpa only [go_sem] using hc)
            simp (disch:=first|assumption|omega) only[e19,e18,e17,e0,e1,e2,e8,go_sem,↓reduceIte,Nat.reduceEqDiff,reduceCtorEq,reduceIte]
            first
              | exact ⟨d - 1, by omega, i + 1, id', _, by omega, by simp, rfl, rfl, by rw [hh]; exact hrow', .inr hid2, .inl ⟨rfl, by rw [hr]; exact e8'⟩, hf2⟩
              | exact ⟨d - 1, by omega, i + 1, id', _, by omega, by simp, rfl, by rw [hh]; exact hrow', .inr hid2, .inl ⟨rfl, by rw [hr]; exact e8'⟩, hf2⟩
              | exact ⟨d - 1, by omega, i + 1, id', _, by omega, by simp, rfl, rfl, by rw [hh]; exact hrow', .inr hid2, .inr (by rw [hr]), hf2⟩
              | exact ⟨d - 1, by omega, i + 1, id', _, by omega, by simp, rfl, by rw [hh]; exact hrow', .inr hid2, .inr (by rw [hr]), hf2⟩
      · subst c1
        have hv : isHere mx.To tick (bx, mx, ux) = false := by simp [isHere, c2]
        rw [hv, if_neg (by simp), List.append_nil] at hh
        rw [hv, if_pos (by simp)] at hr
        rcases hkv with ⟨e8, e8'⟩ | e8
        all_goals
          rcases hw7 with rfl | ⟨n7, cap7, rfl⟩
          all_goals
            simp (disch:=first|assumption|omega) only[e19,e18,e17,e0,e1,e2,e7,e8,hlt,hat,c2,hlm,fillV,hdr,go_sem,↓reduceIte,Nat.reduceEqDiff,reduceCtorEq,Nat.reduceAdd,Nat.reduceLeDiff,reduceIte,Int.reduceAdd,Int.reduceMul,Nat.reduceMul]
            first
              | exact ⟨d - 1, by omega, i + 1, id, _, by omega, by simp, rfl, by rw [hh]; exact hrow, hid, .inr (by rw [hr, e8']; rfl), hfr⟩
              | exact ⟨by rw [List.length_map]; omega, by rw [List.length_map]; omega, d - 1, by omega, i + 1, id, _, by omega, by simp, rfl, by rw [hh]; exact hrow, hid, .inr (by rw [hr, List.map_append]; rfl), hfr⟩
    · have hv : isHere to tick (bx, mx, ux) = false := by simp [isHere, c1]
      rw [hv, if_neg (by simp), List.append_nil] at hh
      rw [hv, if_pos (by simp)] at hr
      rcases hkv with ⟨e8, e8'⟩ | e8
      all_goals
        rcases hw7 with rfl | ⟨n7, cap7, rfl⟩
        all_goals
          simp (disch:=first|assumption|omega) only[e19,e18,e17,e0,e1,e2,e7,e8,hlt,hat,c1,hlm,fillV,hdr,go_sem,↓reduceIte,Nat.reduceEqDiff,reduceCtorEq,Nat.reduceAdd,Nat.reduceLeDiff,reduceIte,Int.reduceAdd,Int.reduceMul,Nat.reduceMul]
          first
            | exact ⟨d - 1, by omega, i + 1, id, _, by omega, by simp, rfl, by rw [hh]; exact hrow, hid, .inr (by rw [hr, e8']; rfl), hfr⟩
            | exact ⟨by rw [List.length_map]; omega, by rw [List.length_map]; omega, d - 1, by omega, i + 1, id, _, by omega, by simp, rfl, by rw [hh]; exact hrow, hid, .inr (by rw [hr, List.map_append]; rfl), hfr⟩
  · obtain rfl : i = Ms.length := by omega
    rw [List.take_length] at hrow hkv
    have hnS : S.heap[nid]? = some (.cells [fv, .int .i64 tk, .lst o (Ms.map flA)]) := hfr.get (by simp) hn
    have hlh : (Ms.filter (isHere to tick)).length ≤ 1000 := Nat.le_trans (List.length_filter_le _ _) hl
    have hkv2 : ∃ kv', S.env 8 = kv' ∧ KeptV kv' (Ms.filter fun x => !isHere to tick x) ∧ (kv' = .lst .nil [] ∨ ∃ l, kv' = .lst (.app 7) l) := ⟨_, rfl, hkv, hkv.imp (·.1) fun e => ⟨_, e⟩⟩
    obtain ⟨kv', e8, hkv3, hkc⟩ := hkv2
    have hset : ∀ X, (S.heap.set nid X)[nid]? = some X := fun X => List.getElem?_set_self (lt_of_get hnS)
    have hfr2 : ∀ X, Fr [nid] h (S.heap.set nid X) := fun X => (hfr.mono (by simp)).trans (Fr.set (by simp)) (fun i hi => .inl hi)
    have hokH : ∀ x ∈ Ms.filter (isHere to tick), OkF x := fun x hx => hok x (List.mem_filter.1 hx).1
    generalize hLH : Ms.filter (isHere to tick) = LH at *
    rcases hrow with ⟨rfl, hnil⟩ | ⟨cap, rest, rfl, hcap, hrh, hrr⟩
    · rcases hkc with rfl | ⟨lk, rfl⟩
      · simp (disch:=first|assumption|omega) only[e19,e18,e0,e7,e8,hlt,hnS,fillV,go_sem,↓reduceIte,Nat.reduceEqDiff,reduceCtorEq,Nat.reduceAdd,Nat.reduceLeDiff,reduceIte,Int.reduceAdd]
        refine callG_ok (SortStableNil_ok F.net_Net_Take_1 _) (by simp (disch:=first|assumption|omega) only[go_sem]) ?_
        rintro _ _ ⟨rfl, hhh⟩
        rw [hhh]
        clear hhh
        simp (disch:=first|assumption|omega) only[e7,go_sem,↓reduceIte,Nat.reduceEqDiff,reduceIte]
        refine aw_count (fun d S2 => S2.env 51 = .int .i64 0 ∧ S2.env 50 = .int .i64 0 ∧ S2.env 11 = .lst .nil [] ∧ S2.heap = S.heap.set nid (.cells [fv, .int .i64 tk, .lst .nil []])) (n := 0) ⟨by simp (disch:=first|assumption|omega) only[go_sem,↓reduceIte,reduceIte], by simp (disch:=first|assumption|omega) only[go_sem,↓reduceIte,Nat.reduceEqDiff,reduceIte], by simp (disch:=first|assumption|omega) only[go_sem,↓reduceIte,Nat.reduceEqDiff,reduceIte], by simp (disch:=first|assumption|omega) only[go_sem]⟩ ?_
        rintro d2 S2 ⟨g51, g50, g11, gh⟩
        simp (disch:=first|assumption|omega) only[g51,g50,g11,go_sem,↓reduceIte,Nat.reduceEqDiff,Nat.reduceLT,reduceIte,Int.reduceLT]
        subst hQ
        simp (disch:=first|assumption|omega) only[R.net_Net_Take,go_sem,↓reduceIte,reduceIte]
        exact ⟨[], _, by rw [hnil]; exact St.nil, .inl ⟨rfl, rfl⟩, hkv3, by rw [gh]; exact hset _, by rw [gh]; exact hfr2 _⟩
      · simp (disch:=first|assumption|omega) only[e19,e18,e0,e7,e8,hlt,hnS,fillV,go_sem,↓reduceIte,Nat.reduceEqDiff,reduceCtorEq,Nat.reduceAdd,Nat.reduceLeDiff,reduceIte,Int.reduceAdd]
        refine callG_ok (SortStableNil_ok F.net_Net_Take_1 _) (by simp (disch:=first|assumption|omega) only[go_sem]) ?_
        rintro _ _ ⟨rfl, hhh⟩
        rw [hhh]
        clear hhh
        simp (disch:=first|assumption|omega) only[e7,go_sem,↓reduceIte,Nat.reduceEqDiff,reduceIte]
        refine aw_count (fun d S2 => S2.env 51 = .int .i64 0 ∧ S2.env 50 = .int .i64 0 ∧ S2.env 11 = .lst .nil [] ∧ S2.heap = S.heap.set nid (.cells [fv, .int .i64 tk, .lst (.app 7) lk])) (n := 0) ⟨by simp (disch:=first|assumption|omega) only[go_sem,↓reduceIte,reduceIte], by simp (disch:=first|assumption|omega) only[go_sem,↓reduceIte,Nat.reduceEqDiff,reduceIte], by simp (disch:=first|assumption|omega) only[go_sem,↓reduceIte,Nat.reduceEqDiff,reduceIte], by simp (disch:=first|assumption|omega) only[go_sem]⟩ ?_
        rintro d2 S2 ⟨g51, g50, g11, gh⟩
        simp (disch:=first|assumption|omega) only[g51,g50,g11,go_sem,↓reduceIte,Nat.reduceEqDiff,Nat.reduceLT,reduceIte,Int.reduceLT]
        subst hQ
        simp (disch:=first|assumption|omega) only[R.net_Net_Take,go_sem,↓reduceIte,reduceIte]
        exact ⟨[], _, by rw [hnil]; exact St.nil, .inl ⟨rfl, rfl⟩, hkv3, by rw [gh]; exact hset _, by rw [gh]; exact hfr2 _⟩
    · have hidl : h.length ≤ id := hid.resolve_left (by simp)
      have hne : id ≠ nid := by omega
      have hrh2 : ∀ X, (S.heap.set nid X)[id]? = some (.cells (LH.flatMap flC ++ rest)) := fun X => by rw [List.getElem?_set_ne (Ne.symm hne)]; exact hrh
      rcases hkc with rfl | ⟨lk, rfl⟩
      · simp (disch:=first|assumption|omega) only[e19,e18,e0,e7,e8,hlt,hnS,fillV,go_sem,↓reduceIte,Nat.reduceEqDiff,reduceCtorEq,Nat.reduceAdd,Nat.reduceLeDiff,reduceIte,Int.reduceAdd]
        refine callG_ok (SortStableS_ok F.net_Net_Take_1 cfDue cmpDue_ok cmpK_due id cap LH.length rest (by omega) LH _ rfl hokH (hrh2 _)) (by simp (disch:=first|assumption|omega) only[go_sem]) ?_
        rintro _ _ ⟨rfl, L', hst0, hhh⟩
        rw [hhh]
        clear hhh
        simp (disch:=first|assumption|omega) only[e7,go_sem,↓reduceIte,Nat.reduceEqDiff,reduceIte]
        have hll := hst0.perm.length_eq
        generalize hH : (S.heap.set nid (.cells [fv, .int .i64 tk, .lst .nil []])).set id (.cells (L'.flatMap flC ++ rest)) = H2
        have hH2 : H2[id]? = some (.cells (L'.flatMap flC ++ rest)) := by rw [← hH]; exact List.getElem?_set_self (by rw [List.length_set]; exact lt_of_get hrh)
        have hHn : H2[nid]? = some (.cells [fv, .int .i64 tk, .lst .nil []]) := by rw [← hH, List.getElem?_set_ne hne]; exact hset _
        have hHf : Fr [nid] h H2 := by rw [← hH]; exact (hfr2 _).trans (Fr.set (S := [id]) (by simp)) (fun j hj => by simp at hj; exact .inr (hj ▸ hidl))
        refine aw_count (fun d S2 => ∃ (i : Nat) (w : AVal), i + d = LH.length ∧ S2.env 51 = .int .i64 i ∧ S2.env 50 = .int .i64 LH.length ∧ S2.env 49 = .ref id 0 LH.length cap ∧ S2.env 11 = w ∧ OutV w (L'.take i) ∧ S2.heap = H2) (n := LH.length) ⟨0, .lst .nil [], by omega, by simp (disch:=first|assumption|omega) only[go_sem,↓reduceIte,reduceIte], by simp (disch:=first|assumption|omega) only[go_sem,↓reduceIte,Nat.reduceEqDiff,reduceIte], by simp (disch:=first|assumption|omega) only[go_sem,↓reduceIte,Nat.reduceEqDiff,reduceIte], by simp (disch:=first|assumption|omega) only[go_sem,↓reduceIte,Nat.reduceEqDiff,reduceIte], .inl ⟨rfl, rfl⟩, by simp (disch:=first|assumption|omega) only[go_sem]⟩ ?_
        clear e19 e18 e17 e0 e1 e2 e7 hlt hid
        rintro d2 S2 ⟨j, w, hj, g51, g50, g49, g11, how, gh⟩
        by_cases hlt : (j : Int) < LH.length
        · have hj1 : j < L'.length := by omega
          have q1 := rowGet (rest := rest) hj1
          have hlen := rowLen L' rest
          have htk : L'.take (j + 1) = L'.take j ++ [L'[j]] := by rw [List.take_add_one, List.getElem?_eq_getElem hj1]; rfl
          have htl : (L'.take j).length ≤ 1000 := by rw [List.length_take]; omega
          have htm : ((L'.take j).map outA).length = (L'.take j).length := List.length_map _
          generalize L'[j] = x at *
          obtain ⟨bx, mx, ux⟩ := x
          have hob := ownB_rdo bx
          have hst := flC_all (bx, mx, ux)
          have hfx : flC (bx, mx, ux) = [.int .i64 ux, .int .i64 mx.Kind, .int .i64 mx.From, .int .i64 mx.To, .int .i64 mx.Seq, .int .u32 mx.Clock, .lst (ownB bx) (cellsA mx.Cells)] := rfl
          rw [hfx] at q1 hst
          rcases how with ⟨rfl, hn0⟩ | rfl
          · simp (disch:=first|assumption|omega) only[g51,g50,g49,g11,gh,hlt,hH2,q1,hlen,fillV,hst,go_sem,↓reduceIte,Nat.reduceEqDiff,Nat.reduceAdd,Nat.reduceLeDiff,reduceIte,Int.reduceAdd,Int.reduceMul,Nat.reduceMul]
            exact ⟨by omega, d2 - 1, by omega, j + 1, _, by omega, by simp, rfl, rfl, .inr (by rw [htk, hn0]; rfl)⟩
          · simp (disch:=first|assumption|omega) only[g51,g50,g49,g11,gh,hlt,hH2,q1,hlen,fillV,hst,go_sem,↓reduceIte,Nat.reduceEqDiff,Nat.reduceAdd,Nat.reduceLeDiff,reduceIte,Int.reduceAdd,Int.reduceMul,Nat.reduceMul]
            exact ⟨by omega, by omega, by omega, d2 - 1, by omega, j + 1, _, by omega, by simp, rfl, rfl, .inr (by rw [htk, List.map_append]; rfl)⟩
        · obtain rfl : j = LH.length := by omega
          rw [← hll, List.take_length] at how
          simp (disch:=first|assumption|omega) only[g51,g50,g11,hlt,go_sem,↓reduceIte,Nat.reduceEqDiff,reduceIte]
          have how2 := how
          rcases how with ⟨rfl, _⟩ | rfl
          · subst hQ
            simp (disch:=first|assumption|omega) only[R.net_Net_Take,go_sem,↓reduceIte,reduceIte]
            exact ⟨L', _, hst0, how2, hkv3, by rw [gh]; exact hHn, by rw [gh]; exact hHf⟩
          · subst hQ
            simp (disch:=first|assumption|omega) only[R.net_Net_Take,go_sem,↓reduceIte,reduceIte]
            exact ⟨L', _, hst0, how2, hkv3, by rw [gh]; exact hHn, by rw [gh]; exact hHf⟩
      · simp (disch:=first|assumption|omega) only[e19,e18,e0,e7,e8,hlt,hnS,fillV,go_sem,↓reduceIte,Nat.reduceEqDiff,reduceCtorEq,Nat.reduceAdd,Nat.reduceLeDiff,reduceIte,Int.reduceAdd]
        refine callG_ok (SortStableS_ok F.net_Net_Take_1 cfDue cmpDue_ok cmpK_due id cap LH.length rest (by omega) LH _ rfl hokH (hrh2 _)) (by simp (disch:=first|assumption|omega) only[go_sem]) ?_
        rintro _ _ ⟨rfl, L', hst0, hhh⟩
        rw [hhh]
        clear hhh
        simp (disch:=first|assumption|omega) only[e7,go_sem,↓reduceIte,Nat.reduceEqDiff,reduceIte]
        have hll := hst0.perm.length_eq
        generalize hH : (S.heap.set nid (.cells [fv, .int .i64 tk, .lst (.app 7) lk])).set id (.cells (L'.flatMap flC ++ rest)) = H2
        have hH2 : H2[id]? = some (.cells (L'.flatMap flC ++ rest)) := by rw [← hH]; exact List.getElem?_set_self (by rw [List.length_set]; exact lt_of_get hrh)
        have hHn : H2[nid]? = some (.cells [fv, .int .i64 tk, .lst (.app 7) lk]) := by rw [← hH, List.getElem?_set_ne hne]; exact hset _
        have hHf : Fr [nid] h H2 := by rw [← hH]; exact (hfr2 _).trans (Fr.set (S := [id]) (by simp)) (fun j hj => by simp at hj; exact .inr (hj ▸ hidl))
        refine aw_count (fun d S2 => ∃ (i : Nat) (w : AVal), i + d = LH.length ∧ S2.env 51 = .int .i64 i ∧ S2.env 50 = .int .i64 LH.length ∧ S2.env 49 = .ref id 0 LH.length cap ∧ S2.env 11 = w ∧ OutV w (L'.take i) ∧ S2.heap = H2) (n := LH.length) ⟨0, .lst .nil [], by omega, by simp (disch:=first|assumption|omega) only[go_sem,↓reduceIte,reduceIte], by simp (disch:=first|assumption|omega) only[go_sem,↓reduceIte,Nat.reduceEqDiff,reduceIte], by simp (disch:=first|assumption|omega) only[go_sem,↓reduceIte,Nat.reduceEqDiff,reduceIte], by simp (disch:=first|assumption|omega) only[go_sem,↓reduceIte,Nat.reduceEqDiff,reduceIte], .inl ⟨rfl, rfl⟩, by simp (disch:=first|assumption|omega) only[go_sem]⟩ ?_
        clear e19 e18 e17 e0 e1 e2 e7 hlt hid
        rintro d2 S2 ⟨j, w, hj, g51, g50, g49, g11, how, gh⟩
        by_cases hlt : (j : Int) < LH.length
        · have hj1 : j < L'.length := by omega
          have q1 := rowGet (rest := rest) hj1
          have hlen := rowLen L' rest
          have htk : L'.take (j + 1) = L'.take j ++ [L'[j]] := by rw [List.take_add_one, List.getElem?_eq_getElem hj1]; rfl
          have htl : (L'.take j).length ≤ 1000 := by rw [List.length_take]; omega
          have htm : ((L'.take j).map outA).length = (L'.take j).length := List.length_map _
          generalize L'[j] = x at *
          obtain ⟨bx, mx, ux⟩ := x
          have hob := ownB_rdo bx
          have hst := flC_all (bx, mx, ux)
          have hfx : flC (bx, mx, ux) = [.int .i64 ux, .int .i64 mx.Kind, .int .i64 mx.From, .int .i64 mx.To, .int .i64 mx.Seq, .int .u32 mx.Clock, .lst (ownB bx) (cellsA mx.Cells)] := rfl
          rw [hfx] at q1 hst
          rcases how with ⟨rfl, hn0⟩ | rfl
          · simp (disch:=first|assumption|omega) only[g51,g50,g49,g11,gh,hlt,hH2,q1,hlen,fillV,hst,go_sem,↓reduceIte,Nat.reduceEqDiff,Nat.reduceAdd,Nat.reduceLeDiff,reduceIte,Int.reduceAdd,Int.reduceMul,Nat.reduceMul]
            exact ⟨by omega, d2 - 1, by omega, j + 1, _, by omega, by simp, rfl, rfl, .inr (by rw [htk, hn0]; rfl)⟩
          · simp (disch:=first|assumption|omega) only[g51,g50,g49,g11,gh,hlt,hH2,q1,hlen,fillV,hst,go_sem,↓reduceIte,Nat.reduceEqDiff,Nat.reduceAdd,Nat.reduceLeDiff,reduceIte,Int.reduceAdd,Int.reduceMul,Nat.reduceMul]
            exact ⟨by omega, by omega, by omega, d2 - 1, by omega, j + 1, _, by omega, by simp, rfl, rfl, .inr (by rw [htk, List.map_append]; rfl)⟩
        · obtain rfl : j = LH.length := by omega
          rw [← hll, List.take_length] at how
          simp (disch:=first|assumption|omega) only[g51,g50,g11,hlt,go_sem,↓reduceIte,Nat.reduceEqDiff,reduceIte]
          have how2 := how
          rcases how with ⟨rfl, _⟩ | rfl
          · subst hQ
            simp (disch:=first|assumption|omega) only[R.net_Net_Take,go_sem,↓reduceIte,reduceIte]
            exact ⟨L', _, hst0, how2, hkv3, by rw [gh]; exact hHn, by rw [gh]; exact hHf⟩
          · subst hQ
            simp (disch:=first|assumption|omega) only[R.net_Net_Take,go_sem,↓reduceIte,reduceIte]
            exact ⟨L', _, hst0, how2, hkv3, by rw [gh]; exact hHn, by rw [gh]; exact hHf⟩
theorem NetTakeRS_ok (nid : Nat) (fs : List Fault) (tk tick to : Int) (Ms : List Fl) (hok : ∀ x ∈ Ms, OkF x) (h : List HObj) (hr : NetR h nid fs tk Ms) :
    ACalls Try.prog F.net_Net_Take [.hp nid 0, .int .i64 tick, .int .i64 to] h (fun v h' => ∃ (L' : List Fl), St (Ms.filter (isHere to tick)) L' ∧ OutV v L' ∧ NetR h' nid fs tk (Ms.filter fun x => !isHere to tick x) ∧ Fr [nid] h h') := by
  obtain ⟨fo, kv, h1, h2, h3, h4⟩ := hr
  exact ACalls.mono (NetTakeS_ok nid _ kv tk tick to Ms hok h3 h4 rfl h h1) fun v h' ⟨L', kv', a1, a3, a4, a5, a6⟩ => ⟨L', a1, a3, ⟨fo, kv', a5, h2, a4, Nat.le_trans (List.length_filter_le _ _) h4⟩, a6⟩
end Go.Proofs.Ytpdajkbfemcdlaa
namespace Go.Proofs.Ytpdajkbfemcdlaa
open Go.Ge
abbrev NetP := Int × List (Msg × Int)
def hereP (to t : Int) (x : Msg × Int) : Bool := decide (x.1.To = to) && decide (x.2 ≤ t)
def bucketP (L : List (Msg × Int)) (n : Nat) : List (Msg × Int) := (List.range n).flatMap fun d => L.filter fun x => decide (x.2 = (d : Nat))
def takeM (n : NetP) (t to : Int) : List Msg := (bucketP (n.2.filter (hereP to t)) 5001).map (·.1)
def takeN (n : NetP) (t to : Int) : NetP := (n.1, n.2.filter fun x => !hereP to t x)
def copies (fs : List Fault) (t : Int) (m : Msg) : List (Msg × Int) := List.replicate (sendP fs t m.From).1.toNat (m, t + 1 + (sendP fs t m.From).2)
def sendAll (fs : List Fault) (t : Int) : NetP → List Msg → Option NetP
  | n, [] => some n
  | n, m :: ms => if sendE fs n.1 n.2.length t m = 0 then sendAll fs t (t, n.2 ++ copies fs t m) ms else none
def inAll (i j : Int) : Lk → List Msg → Option Lk
  | e, [] => some e
  | e, m :: ms => if inE e i j m = 0 then inAll i j (inS e i j m) ms else none
def pKind (p : Int) : Int := p.tdiv 2 % 3
def pCells (p : Int) (t : Nat) : List Cell := [⟨p.tdiv 6 % 9, (t : Int) % 60⟩]
def emptied (e : Lk) : Lk := { e with got := [] }
structure Sy where
  e0 : Lk
  e1 : Lk
  net : NetP
  g0 : List Msg
  g1 : List Msg
def endP (fs : List Fault) (t i : Int) (e : Lk) (n : NetP) (g : List Msg) : Option (Lk × NetP × List Msg) :=
  (inAll i (1 - i) e (takeM n t i)).bind fun e' => (sendAll fs t (takeN n t i) (outL (emptied e') i (1 - i) t t)).bind fun n' => some (outS (emptied e') t, n', g ++ e'.got)
def putP (puts : List Int) (t : Nat) (s : Sy) : Option Sy :=
  match puts[t]? with
  | none => some s
  | some p =>
    if p % 2 = 0 then (if putE s.e0 0 1 (pKind p) (pCells p t) = 0 then some { s with e0 := putS s.e0 0 1 (pKind p) (pCells p t) } else none)
    else (if putE s.e1 1 0 (pKind p) (pCells p t) = 0 then some { s with e1 := putS s.e1 1 0 (pKind p) (pCells p t) } else none)
def end0 (fs : List Fault) (t : Int) (s : Sy) : Option Sy := (endP fs t 0 s.e0 s.net s.g0).map fun r => { s with e0 := r.1, net := r.2.1, g0 := r.2.2 }
def end1 (fs : List Fault) (t : Int) (s : Sy) : Option Sy := (endP fs t 1 s.e1 s.net s.g1).map fun r => { s with e1 := r.1, net := r.2.1, g1 := r.2.2 }
def tickP (fs : List Fault) (puts : List Int) (t : Nat) (s : Sy) : Option Sy := ((putP puts t s).bind (end0 fs t)).bind (end1 fs t)
def runP (fs : List Fault) (puts : List Int) : Nat → Nat → Sy → Option Sy
  | 0, _, s => some s
  | d + 1, t, s => (tickP fs puts t s).bind (runP fs puts d (t + 1))
def sy0 : Sy := ⟨lk0, lk0, (0, []), [], []⟩
def linkP (fs : List Fault) (puts : List Int) (ticks : Nat) : Option Sy := runP fs puts ticks 0 sy0
def kc (m : Msg) : Int × List Cell := (m.Kind, m.Cells)
def putQ (i : Int) : List Int → Nat → List (Int × List Cell)
  | [], _ => []
  | p :: ps, t => if p % 2 ≠ i then putQ i ps (t + 1) else (pKind p, pCells p t) :: putQ i ps (t + 1)
def unc (m : Msg) : Msg := { m with Clock := 0 }
theorem unc_check (m : Msg) : checkF (unc m) = checkF m := rfl
def PutI (i j : Int) (P : List Msg) : Prop := ∀ (k : Nat) (m : Msg), P[k]? = some m → m.Seq = k ∧ m.From = i ∧ m.To = j ∧ m.Clock = 0 ∧ m.Kind ≠ 3 ∧ checkF m = 0
def MsgD (i j : Int) (P : List Msg) (w : Int) (m : Msg) : Prop := (∃ k : Nat, P[k]? = some (unc m)) ∨ (m.Kind = 3 ∧ m.From = i ∧ m.To = j ∧ 0 ≤ m.Seq ∧ m.Seq ≤ w ∧ m.Cells = [])
theorem MsgD.mono {i j w w' : Int} {P Q : List Msg} {m : Msg} (h : MsgD i j P w m) (hw : w ≤ w') : MsgD i j (P ++ Q) w' m := by
  rcases h with ⟨k, h⟩ | ⟨h1, h2, h3, h4, h5, h6⟩
  · refine .inl ⟨k, ?_⟩
    rw [List.getElem?_append_left (List.getElem?_eq_some_iff.1 h).1]; exact h
  · exact .inr ⟨h1, h2, h3, h4, by omega, h6⟩
theorem MsgD.fields {i j w : Int} {P : List Msg} {m : Msg} (hP : PutI i j P) (h : MsgD i j P w m) : m.From = i ∧ m.To = j := by
  rcases h with ⟨k, h⟩ | ⟨h1, h2, h3, _⟩
  · have := hP k _ h; exact ⟨this.2.1, this.2.2.1⟩
  · exact ⟨h2, h3⟩
theorem MsgD.check {i j w : Int} {P : List Msg} {m : Msg} (hP : PutI i j P) (hij : 0 ≤ i ∧ i ≤ 4 ∧ 0 ≤ j ∧ j ≤ 4 ∧ i ≠ j) (hw : w ≤ 2147483647) (h : MsgD i j P w m) : checkF m = 0 := by
  rcases h with ⟨k, h⟩ | ⟨h1, h2, h3, h4, h5, h6⟩
  · rw [← unc_check]; exact (hP k _ h).2.2.2.2.2
  · have : msgFault m = 0 := by unfold msgFault; simp [h1, h2, h3, h6]; omega
    unfold checkF
    rw [this, h6]; rfl
structure EndI (P Q : List Msg) (e : Lk) (g : List Msg) : Prop where
  next : e.next = P.length
  wait : ∃ b, b ≤ P.length ∧ e.wait.map (·.1) = P.drop b
  want : ∃ w : Nat, e.want = w ∧ w ≤ Q.length ∧ (g ++ e.got).map unc = Q.take w
theorem cutW_drop (q : Int) : ∀ l : List (Msg × Int), ∃ c, c ≤ l.length ∧ cutW q l = l.drop c
  | [] => ⟨0, Nat.le_refl _, rfl⟩
  | p :: l => by
    unfold cutW
    split
    · obtain ⟨c, h1, h2⟩ := cutW_drop q l
      exact ⟨c + 1, by simp; omega, by rw [h2]; rfl⟩
    · exact ⟨0, by simp, rfl⟩
theorem drop_map_le {l : List (Msg × Int)} {P : List Msg} {b c : Nat} (h : l.map (·.1) = P.drop b) (hb : b ≤ P.length) (hc : c ≤ l.length) : b + c ≤ P.length ∧ (l.drop c).map (·.1) = P.drop (b + c) := by
  have := congrArg List.length h
  rw [List.length_map, List.length_drop] at this
  exact ⟨by omega, by rw [List.map_drop, h, List.drop_drop]⟩
theorem EndI.recv {i j wj : Int} {P Q : List Msg} {e : Lk} {g : List Msg} {m : Msg} (h : EndI P Q e g) (hij : 0 ≤ i ∧ i ≤ 4 ∧ 0 ≤ j ∧ j ≤ 4 ∧ i ≠ j) (hQ : PutI j i Q) (hm : MsgD j i Q wj m) (hw : wj ≤ P.length) (hl : P.length ≤ 1000) :
    inE e i j m = 0 ∧ EndI P Q (inS e i j m) g ∧ e.want ≤ (inS e i j m).want ∧ (∃ c, c ≤ e.wait.length ∧ (inS e i j m).wait = e.wait.drop c) := by
  have hf := hm.fields hQ
  have hc := hm.check hQ (by omega) (by omega)
  have hE : inE e i j m = 0 := by
    unfold inE
    rw [if_neg (by simp [hc]), if_neg (by omega)]
    rcases hm with ⟨k, hm⟩ | ⟨h1, _, _, h4, h5, _⟩
    · rw [if_neg]
      intro hk
      exact (hQ k _ hm).2.2.2.2.1 hk.1
    · rw [if_neg]
      rw [h.next]; omega
  refine ⟨hE, ?_⟩
  unfold inS
  rw [if_neg (by simp [hE])]
  obtain ⟨hn, ⟨b, hb, hwt⟩, w, hw1, hw2, hw3⟩ := h
  rcases hm with ⟨k, hm⟩ | ⟨h1, _, _, h4, h5, _⟩
  · have hk := hQ k _ hm
    have hk3 : m.Kind ≠ 3 := hk.2.2.2.2.1
    rw [if_neg hk3]
    split
    · rename_i hs
      have hkw : k = w := by have : m.Seq = k := hk.1; omega
      subst hkw
      have hkl := (List.getElem?_eq_some_iff.1 hm).1
      refine ⟨⟨hn, ⟨b, hb, hwt⟩, k + 1, by simp [hw1], hkl, ?_⟩, by simp only; omega, 0, by simp, rfl⟩
      simp only
      rw [← List.append_assoc, List.map_append, hw3, List.take_add_one, hm]; rfl
    · exact ⟨⟨hn, ⟨b, hb, hwt⟩, w, hw1, hw2, hw3⟩, Int.le_refl _, 0, by simp, rfl⟩
  · rw [if_pos h1]
    obtain ⟨c, h2, h3⟩ := cutW_drop m.Seq e.wait
    obtain ⟨h6, h7⟩ := drop_map_le hwt hb h2
    exact ⟨⟨hn, ⟨b + c, h6, by simp only; rw [h3]; exact h7⟩, w, hw1, hw2, hw3⟩, Int.le_refl _, c, h2, h3⟩
theorem EndI.recvs {i j wj : Int} {P Q : List Msg} {g : List Msg} (hij : 0 ≤ i ∧ i ≤ 4 ∧ 0 ≤ j ∧ j ≤ 4 ∧ i ≠ j) (hQ : PutI j i Q) (hw : wj ≤ P.length) (hl : P.length ≤ 1000) :
    ∀ (ms : List Msg) (e : Lk), EndI P Q e g → (∀ m ∈ ms, MsgD j i Q wj m) → ∃ e', inAll i j e ms = some e' ∧ e' = ms.foldl (fun e m => inS e i j m) e ∧ EndI P Q e' g ∧ e.want ≤ e'.want ∧ ∃ c, c ≤ e.wait.length ∧ e'.wait = e.wait.drop c
  | [], e, h, _ => ⟨e, rfl, rfl, h, Int.le_refl _, 0, by simp, rfl⟩
  | m :: ms, e, h, hm => by
    obtain ⟨h1, h2, h3, c, h4, h5⟩ := h.recv hij hQ (hm m (by simp)) hw hl
    obtain ⟨e', k1, k0, k2, k3, c', k4, k5⟩ := EndI.recvs hij hQ hw hl ms _ h2 fun x hx => hm x (by simp [hx])
    refine ⟨e', by unfold inAll; rw [if_pos h1]; exact k1, k0, k2, by omega, c + c', ?_, by rw [k5, h5, List.drop_drop]⟩
    rw [h5, List.length_drop] at k4; omega
theorem outW_map (t : Int) (l : List (Msg × Int)) (n : Nat) : (outW t l n).map (·.1) = l.map (·.1) := by
  unfold outW
  rw [List.map_append, List.map_map]
  conv => rhs; rw [← List.take_append_drop n l, List.map_append]
  congr 1
  refine List.map_congr_left fun p _ => ?_
  simp only[Function.comp,mark]
  split <;> rfl
theorem EndI.empty {P Q : List Msg} {e : Lk} {g : List Msg} (h : EndI P Q e g) : EndI P Q (emptied e) (g ++ e.got) := by
  obtain ⟨hn, h2, w, hw1, hw2, hw3⟩ := h
  exact ⟨hn, h2, w, hw1, hw2, by simpa [emptied] using hw3⟩
theorem EndI.out {P Q : List Msg} {e : Lk} {g : List Msg} (t : Int) (h : EndI P Q e g) : EndI P Q (outS e t) g := by
  obtain ⟨hn, ⟨b, h2, h3⟩, h4⟩ := h
  exact ⟨hn, ⟨b, h2, by simp only[outS]; rw [outW_map]; exact h3⟩, h4⟩
theorem EndI.outs {i j : Int} {P Q : List Msg} {e : Lk} {g : List Msg} {t c : Int} (hP : PutI i j P) (h : EndI P Q e g) : ∀ m ∈ outL e i j t c, MsgD i j P e.want m := by
  obtain ⟨hn, ⟨b, h2, h3⟩, w, hw, _⟩ := h
  intro m hm
  unfold outL at hm
  rcases List.mem_append.1 hm with hm | hm
  · unfold outM at hm
    obtain ⟨p, hp, rfl⟩ := List.mem_map.1 hm
    have hp2 : p ∈ e.wait := List.mem_of_mem_take (List.mem_filter.1 hp).1
    have hp3 : p.1 ∈ P.drop b := by rw [← h3]; exact List.mem_map.2 ⟨p, hp2, rfl⟩
    obtain ⟨k, hk⟩ := List.getElem?_of_mem (List.mem_of_mem_drop hp3)
    refine .inl ⟨k, ?_⟩
    have := (hP k _ hk).2.2.2.1
    rw [hk]
    unfold unc
    simp only[Option.some.injEq]
    rw [← this]
  · split at hm
    · simp only[List.mem_singleton] at hm
      subst hm
      exact .inr ⟨rfl, rfl, rfl, by simp [hw], Int.le_refl _, rfl⟩
    · cases hm
theorem outL_len (e : Lk) (i j t c : Int) : (outL e i j t c).length ≤ 9 := by
  unfold outL
  rw [List.length_append]
  have := outM_len t c e.wait 8
  split <;> simp <;> omega
theorem PutI.snoc {i j : Int} {P : List Msg} {m : Msg} (h : PutI i j P) (h1 : m.Seq = P.length) (h2 : m.From = i) (h3 : m.To = j) (h4 : m.Clock = 0) (h5 : m.Kind ≠ 3) (h6 : checkF m = 0) : PutI i j (P ++ [m]) := by
  intro k x hx
  by_cases hk : k < P.length
  · rw [List.getElem?_append_left hk] at hx; exact h k x hx
  · rw [List.getElem?_append_right (by omega)] at hx
    have : k = P.length := by
      by_cases h0 : k - P.length = 0
      · omega
      · rw [List.getElem?_eq_none (by simp; omega)] at hx; cases hx
    subst this
    simp only[Nat.sub_self,List.getElem?_cons_zero,Option.some.injEq] at hx
    subst hx
    exact ⟨h1, h2, h3, h4, h5, h6⟩
theorem put_check {i j n p : Int} {t : Nat} (hij : 0 ≤ i ∧ i ≤ 4 ∧ 0 ≤ j ∧ j ≤ 4 ∧ i ≠ j) (hn : 0 ≤ n ∧ n ≤ 2147483647) : checkF ⟨pKind p, i, j, n, 0, pCells p t⟩ = 0 ∧ pKind p ≠ 3 := by
  have h1 : 0 ≤ pKind p ∧ pKind p ≤ 2 := by unfold pKind; omega
  have hm : msgFault ⟨pKind p, i, j, n, 0, pCells p t⟩ = 0 := by
    unfold msgFault
    simp only
    rw [if_neg (by omega), if_neg (by omega), if_neg (by omega), if_neg (by omega)]
  refine ⟨?_, by omega⟩
  unfold checkF
  rw [hm]
  have h2 : 0 ≤ p.tdiv 6 % 9 ∧ p.tdiv 6 % 9 ≤ 8 := by omega
  have h3 : 0 ≤ (t : Int) % 60 ∧ (t : Int) % 60 ≤ 59 := by omega
  simp only[ne_eq,not_true_eq_false,if_false]
  unfold cellsFault pCells
  rw [if_neg (by simp)]
  simp [cellsF, onG]
  omega
theorem EndI.put {i j p : Int} {P Q : List Msg} {e : Lk} {g : List Msg} {t : Nat} (hij : 0 ≤ i ∧ i ≤ 4 ∧ 0 ≤ j ∧ j ≤ 4 ∧ i ≠ j) (h : EndI P Q e g) (hP : PutI i j P) (hl : P.length < 400) :
    putE e i j (pKind p) (pCells p t) = 0 ∧ putS e i j (pKind p) (pCells p t) = { e with next := e.next + 1, wait := e.wait ++ [(putM e i j (pKind p) (pCells p t), -1)] } ∧ EndI (P ++ [putM e i j (pKind p) (pCells p t)]) Q (putS e i j (pKind p) (pCells p t)) g ∧ PutI i j (P ++ [putM e i j (pKind p) (pCells p t)]) := by
  obtain ⟨hn, ⟨b, hb, hw⟩, h4⟩ := h
  obtain ⟨hc, hk⟩ := put_check (n := e.next) (p := p) (t := t) hij (by omega)
  have hwl : e.wait.length ≤ P.length := by have := congrArg List.length hw; rw [List.length_map, List.length_drop] at this; omega
  have hE : putE e i j (pKind p) (pCells p t) = 0 := by
    unfold putE putM
    rw [if_neg hk, if_neg (by rw [hc]; simp), if_neg (by omega)]
  have hS : putS e i j (pKind p) (pCells p t) = { e with next := e.next + 1, wait := e.wait ++ [(putM e i j (pKind p) (pCells p t), -1)] } := by
    unfold putS; rw [if_pos hE]
  refine ⟨hE, hS, ?_, hP.snoc hn rfl rfl rfl hk hc⟩
  rw [hS]
  refine ⟨by simp [hn], ⟨b, by simp; omega, ?_⟩, h4⟩
  simp only[List.map_append,List.map_cons,List.map_nil]
  rw [hw, List.drop_append_of_le_length hb]
theorem EndI.other {P Q : List Msg} {e : Lk} {g : List Msg} (m : Msg) (h : EndI P Q e g) : EndI P (Q ++ [m]) e g := by
  obtain ⟨hn, h2, w, h3, h4, h5⟩ := h
  exact ⟨hn, h2, w, h3, by simp; omega, by rw [List.take_append_of_le_length h4]; exact h5⟩
theorem mem_bucket {L : List (Msg × Int)} {n : Nat} {x : Msg × Int} (h : x ∈ bucketP L n) : x ∈ L := by
  unfold bucketP at h
  obtain ⟨d, _, h⟩ := List.mem_flatMap.1 h
  exact (List.mem_filter.1 h).1
theorem mem_takeM {n : NetP} {t to : Int} {m : Msg} (h : m ∈ takeM n t to) : m.To = to ∧ ∃ x ∈ n.2, x.1 = m ∧ x.2 ≤ t := by
  unfold takeM at h
  obtain ⟨x, hx, rfl⟩ := List.mem_map.1 h
  obtain ⟨h1, h2⟩ := List.mem_filter.1 (mem_bucket hx)
  simp only[hereP,Bool.and_eq_true,decide_eq_true_eq] at h2
  exact ⟨h2.1, x, h1, rfl, h2.2⟩
theorem mem_takeN {n : NetP} {t to : Int} {x : Msg × Int} (h : x ∈ (takeN n t to).2) : x ∈ n.2 := (List.mem_filter.1 h).1
theorem copies_len (fs : List Fault) (t : Int) (m : Msg) : (copies fs t m).length ≤ 2 := by
  unfold copies
  rw [List.length_replicate]
  have := sendP_bd fs t m.From
  omega
theorem mem_copies {fs : List Fault} {t : Int} {m : Msg} {x : Msg × Int} (h : x ∈ copies fs t m) : x.1 = m ∧ t + 1 ≤ x.2 ∧ x.2 ≤ t + 2001 := by
  unfold copies at h
  rw [List.eq_of_mem_replicate h]
  have := sendP_bd fs t m.From
  exact ⟨rfl, by simp only; omega, by simp only; omega⟩
def sendF (fs : List Fault) (t : Int) (n : NetP) (ms : List Msg) : NetP := if ms = [] then n else (t, n.2 ++ ms.flatMap (copies fs t))
theorem sendF_2 (fs : List Fault) (t : Int) (n : NetP) (ms : List Msg) : (sendF fs t n ms).2 = n.2 ++ ms.flatMap (copies fs t) := by
  unfold sendF
  split
  · rename_i h; subst h; simp
  · rfl
theorem flat_len (fs : List Fault) (t : Int) (ms : List Msg) : (ms.flatMap (copies fs t)).length ≤ 2 * ms.length := by
  induction ms with
  | nil => simp
  | cons m ms ih =>
    rw [List.flatMap_cons, List.length_append, List.length_cons]
    have := copies_len fs t m
    omega
theorem sends_ok (fs : List Fault) (t : Int) (h0 : 0 ≤ t) (h1 : t ≤ 2000) : ∀ (ms : List Msg) (n : NetP), n.1 ≤ t → (∀ m ∈ ms, checkF m = 0) → n.2.length + 2 * ms.length ≤ 1000 → sendAll fs t n ms = some (sendF fs t n ms)
  | [], n, _, _, _ => rfl
  | m :: ms, n, hn, hc, hl => by
    have hc1 := copies_len fs t m
    have hb := sendP_bd fs t m.From
    rw [List.length_cons] at hl
    have hE : sendE fs n.1 n.2.length t m = 0 := by
      unfold sendE
      rw [if_neg (by omega), if_neg (by omega), if_neg (by simp [hc m (by simp)]), if_neg (by omega)]
    unfold sendAll
    rw [if_pos hE, sends_ok fs t h0 h1 ms _ (Int.le_refl _) (fun x hx => hc x (by simp [hx])) (by rw [List.length_append]; omega)]
    unfold sendF
    rw [if_neg (show ¬(m :: ms = []) by simp)]
    split
    · rename_i e; subst e; simp
    · simp
structure SyI (P0 P1 : List Msg) (t : Int) (s : Sy) : Prop where
  p0 : PutI 0 1 P0
  p1 : PutI 1 0 P1
  l0 : P0.length + P1.length ≤ 300
  e0 : EndI P0 P1 s.e0 s.g0
  e1 : EndI P1 P0 s.e1 s.g1
  net : ∀ x ∈ s.net.2, (MsgD 0 1 P0 s.e0.want x.1 ∨ MsgD 1 0 P1 s.e1.want x.1)
  tk : s.net.1 ≤ t
theorem SyI.init : SyI [] [] 0 sy0 :=
  ⟨fun k m h => by simp at h, fun k m h => by simp at h, by simp, ⟨rfl, ⟨0, by simp, rfl⟩, 0, rfl, by simp, rfl⟩, ⟨rfl, ⟨0, by simp, rfl⟩, 0, rfl, by simp, rfl⟩, (fun x hx => by cases hx), Int.le_refl _⟩
theorem EndI.want_le {P Q : List Msg} {e : Lk} {g : List Msg} (h : EndI P Q e g) : e.want ≤ Q.length ∧ 0 ≤ e.want := by
  obtain ⟨_, _, w, h1, h2, _⟩ := h
  omega
theorem SyI.later {P0 P1 : List Msg} {t t' : Int} {s : Sy} (h : SyI P0 P1 t s) (ht : t ≤ t') : SyI P0 P1 t' s :=
  ⟨h.p0, h.p1, h.l0, h.e0, h.e1, h.net, by have := h.tk; omega⟩
structure EndD (fs : List Fault) (t i : Int) (e : Lk) (n : NetP) (g : List Msg) (e' em : Lk) : Prop where
  run : endP fs t i e n g = some (e', sendF fs t (takeN n t i) (outL (emptied em) i (1 - i) t t), g ++ em.got)
  fold : em = (takeM n t i).foldl (fun e m => inS e i (1 - i) m) e
  out : e' = outS (emptied em) t
  want : e.want ≤ em.want
  cut : ∃ c, c ≤ e.wait.length ∧ em.wait = e.wait.drop c
theorem SyI.step0 {fs : List Fault} {P0 P1 : List Msg} {t : Int} {s : Sy} (h : SyI P0 P1 t s) (h0 : 0 ≤ t) (h1 : t ≤ 2000) (hb : ∀ em : Lk, (∃ c, c ≤ s.e0.wait.length ∧ em.wait = s.e0.wait.drop c) → (takeN s.net t 0).2.length + 2 * (outL (emptied em) 0 1 t t).length ≤ 1000) :
    ∃ em, EndD fs t 0 s.e0 s.net s.g0 (outS (emptied em) t) em ∧ end0 fs t s = some { s with e0 := outS (emptied em) t, net := sendF fs t (takeN s.net t 0) (outL (emptied em) 0 1 t t), g0 := s.g0 ++ em.got } ∧ SyI P0 P1 t { s with e0 := outS (emptied em) t, net := sendF fs t (takeN s.net t 0) (outL (emptied em) 0 1 t t), g0 := s.g0 ++ em.got } := by
  obtain ⟨p0, p1, l0, e0, e1, hn, htk⟩ := h
  have hw := e1.want_le
  have hw0 := e0.want_le
  obtain ⟨em, k1, k0, k2, k3, k4⟩ := EndI.recvs (i := 0) (j := 1) (wj := s.e1.want) (by omega) p1 hw.1 (by omega) (takeM s.net t 0) s.e0 e0 (fun m hm => by
    obtain ⟨h1, x, hx, rfl, _⟩ := mem_takeM hm
    refine (hn x hx).resolve_left fun h => ?_
    have := (h.fields p0).2
    omega)
  have hwm := k2.want_le
  have hos := (k2.empty).outs (t := t) (c := t) p0
  have hck : ∀ m ∈ outL (emptied em) 0 1 t t, checkF m = 0 := fun m hm => (hos m hm).check p0 (by omega) (by simp only[emptied]; omega)
  have hs := sends_ok fs t h0 h1 (outL (emptied em) 0 1 t t) (takeN s.net t 0) htk hck (hb em k4)
  have hrun : endP fs t 0 s.e0 s.net s.g0 = some (outS (emptied em) t, sendF fs t (takeN s.net t 0) (outL (emptied em) 0 1 t t), s.g0 ++ em.got) := by
    unfold endP
    rw [show (1 : Int) - 0 = 1 from rfl, k1, Option.bind_some, hs]; rfl
  refine ⟨em, ⟨by simpa using hrun, k0, rfl, k3, k4⟩, by unfold end0; rw [hrun]; rfl, p0, p1, l0, (k2.empty).out t, e1, ?_, ?_⟩
  · intro x hx
    simp only at hx
    rw [sendF_2] at hx
    rcases List.mem_append.1 hx with hx | hx
    · rcases hn x (mem_takeN hx) with h | h
      · have := h.mono (Q := []) (w' := (outS (emptied em) t).want) k3
        rw [List.append_nil] at this
        exact .inl this
      · exact .inr h
    · obtain ⟨m, hm, hx⟩ := List.mem_flatMap.1 hx
      rw [(mem_copies hx).1]
      exact .inl (hos m hm)
  · simp only[sendF]
    split
    · exact htk
    · exact Int.le_refl _
theorem SyI.step1 {fs : List Fault} {P0 P1 : List Msg} {t : Int} {s : Sy} (h : SyI P0 P1 t s) (h0 : 0 ≤ t) (h1 : t ≤ 2000) (hb : ∀ em : Lk, (∃ c, c ≤ s.e1.wait.length ∧ em.wait = s.e1.wait.drop c) → (takeN s.net t 1).2.length + 2 * (outL (emptied em) 1 0 t t).length ≤ 1000) :
    ∃ em, EndD fs t 1 s.e1 s.net s.g1 (outS (emptied em) t) em ∧ end1 fs t s = some { s with e1 := outS (emptied em) t, net := sendF fs t (takeN s.net t 1) (outL (emptied em) 1 0 t t), g1 := s.g1 ++ em.got } ∧ SyI P0 P1 t { s with e1 := outS (emptied em) t, net := sendF fs t (takeN s.net t 1) (outL (emptied em) 1 0 t t), g1 := s.g1 ++ em.got } := by
  obtain ⟨p0, p1, l0, e0, e1, hn, htk⟩ := h
  have hw := e0.want_le
  have hw1 := e1.want_le
  obtain ⟨em, k1, k0, k2, k3, k4⟩ := EndI.recvs (i := 1) (j := 0) (wj := s.e0.want) (by omega) p0 hw.1 (by omega) (takeM s.net t 1) s.e1 e1 (fun m hm => by
    obtain ⟨h1, x, hx, rfl, _⟩ := mem_takeM hm
    refine (hn x hx).resolve_right fun h => ?_
    have := (h.fields p1).2
    omega)
  have hwm := k2.want_le
  have hos := (k2.empty).outs (t := t) (c := t) p1
  have hck : ∀ m ∈ outL (emptied em) 1 0 t t, checkF m = 0 := fun m hm => (hos m hm).check p1 (by omega) (by simp only[emptied]; omega)
  have hs := sends_ok fs t h0 h1 (outL (emptied em) 1 0 t t) (takeN s.net t 1) htk hck (hb em k4)
  have hrun : endP fs t 1 s.e1 s.net s.g1 = some (outS (emptied em) t, sendF fs t (takeN s.net t 1) (outL (emptied em) 1 0 t t), s.g1 ++ em.got) := by
    unfold endP
    rw [show (1 : Int) - 1 = 0 from rfl, k1, Option.bind_some, hs]; rfl
  refine ⟨em, ⟨by simpa using hrun, k0, rfl, k3, k4⟩, by unfold end1; rw [hrun]; rfl, p0, p1, l0, e0, (k2.empty).out t, ?_, ?_⟩
  · intro x hx
    simp only at hx
    rw [sendF_2] at hx
    rcases List.mem_append.1 hx with hx | hx
    · rcases hn x (mem_takeN hx) with h | h
      · exact .inl h
      · have := h.mono (Q := []) (w' := (outS (emptied em) t).want) k3
        rw [List.append_nil] at this
        exact .inr this
    · obtain ⟨m, hm, hx⟩ := List.mem_flatMap.1 hx
      rw [(mem_copies hx).1]
      exact .inr (hos m hm)
  · simp only[sendF]
    split
    · exact htk
    · exact Int.le_refl _
def PutT (i : Int) (puts : List Int) (t : Nat) (P : List Msg) : Prop := putQ i puts 0 = P.map kc ++ putQ i (puts.drop t) t
theorem PutT.same {i : Int} {puts : List Int} {t : Nat} {P : List Msg} (h : PutT i puts t P) (hp : ∀ p, puts[t]? = some p → p % 2 ≠ i) : PutT i puts (t + 1) P := by
  unfold PutT at h ⊢
  rw [h]
  congr 1
  by_cases ht : t < puts.length
  · rw [List.drop_eq_getElem_cons ht]
    conv => lhs; unfold putQ
    rw [if_pos (hp _ (List.getElem?_eq_getElem ht))]
  · rw [List.drop_of_length_le (by omega), List.drop_of_length_le (by omega)]; rfl
theorem PutT.more {i p : Int} {puts : List Int} {t : Nat} {P : List Msg} {m : Msg} (h : PutT i puts t P) (hp : puts[t]? = some p) (hi : p % 2 = i) (hm : kc m = (pKind p, pCells p t)) : PutT i puts (t + 1) (P ++ [m]) := by
  unfold PutT at h ⊢
  obtain ⟨ht, rfl⟩ := List.getElem?_eq_some_iff.1 hp
  rw [h, List.drop_eq_getElem_cons ht]
  conv => lhs; rw [putQ]
  rw [if_neg (by simpa using hi), List.map_append, List.map_cons, List.map_nil, hm]; simp
theorem SyI.put {puts : List Int} {P0 P1 : List Msg} {t : Nat} {s : Sy} (h : SyI P0 P1 t s) (ht : P0.length + P1.length ≤ t) (ht2 : t ≤ 200) (q0 : PutT 0 puts t P0) (q1 : PutT 1 puts t P1) :
    ∃ s' P0' P1', putP puts t s = some s' ∧ SyI P0' P1' t s' ∧ P0'.length + P1'.length ≤ t + 1 ∧ PutT 0 puts (t + 1) P0' ∧ PutT 1 puts (t + 1) P1' ∧ s'.net = s.net ∧ s'.g0 = s.g0 ∧ s'.g1 = s.g1 ∧
      (s' = s ∨ t < puts.length ∧ ((∃ m, s'.e1 = s.e1 ∧ s'.e0 = { s.e0 with next := s.e0.next + 1, wait := s.e0.wait ++ [(m, -1)] }) ∨ (∃ m, s'.e0 = s.e0 ∧ s'.e1 = { s.e1 with next := s.e1.next + 1, wait := s.e1.wait ++ [(m, -1)] }))) := by
  unfold putP
  cases hp : puts[t]? with
  | none =>
    refine ⟨s, P0, P1, rfl, h, by omega, q0.same (fun p e => by rw [hp] at e; cases e), q1.same (fun p e => by rw [hp] at e; cases e), rfl, rfl, rfl, .inl rfl⟩
  | some p =>
    have hpl := (List.getElem?_eq_some_iff.1 hp).1
    obtain ⟨p0, p1, l0, e0, e1, hn, htk⟩ := h
    by_cases hi : p % 2 = 0
    · obtain ⟨k1, k2, k3, k4⟩ := e0.put (p := p) (t := t) (i := 0) (j := 1) (by omega) p0 (by omega)
      simp only[hi,k1,if_true]
      refine ⟨_, _, P1, rfl, ⟨k4, p1, by simp; omega, k3, e1.other _, fun x hx => ?_, htk⟩, by simp; omega, q0.more hp hi rfl, q1.same (fun q e => by rw [hp] at e; cases e; omega), rfl, rfl, rfl, .inr ⟨hpl, .inl ⟨_, rfl, k2⟩⟩⟩
      rcases hn x hx with h | h
      · exact .inl (h.mono (by rw [k2]; exact Int.le_refl _))
      · exact .inr h
    · have hi1 : p % 2 = 1 := by omega
      obtain ⟨k1, k2, k3, k4⟩ := e1.put (p := p) (t := t) (i := 1) (j := 0) (by omega) p1 (by omega)
      simp only[hi,k1,if_true,if_false]
      refine ⟨_, P0, _, rfl, ⟨p0, k4, by simp; omega, e0.other _, k3, fun x hx => ?_, htk⟩, by simp; omega, q0.same (fun q e => by rw [hp] at e; cases e; omega), q1.more hp hi1 rfl, rfl, rfl, rfl, .inr ⟨hpl, .inr ⟨_, rfl, k2⟩⟩⟩
      rcases hn x hx with h | h
      · exact .inl h
      · exact .inr (h.mono (by rw [k2]; exact Int.le_refl _))
end Go.Proofs.Ytpdajkbfemcdlaa
namespace Go.Proofs.Ytpdajkbfemcdlaa
open Go.Ge
theorem filter_snd (p : Fl → Bool) (q : Msg × Int → Bool) (h : ∀ x : Fl, p x = q x.2) (L : List Fl) : (L.filter p).map (·.2) = (L.map (·.2)).filter q := by
  rw [List.filter_map]
  congr 1
  refine List.filter_congr fun x _ => ?_
  rw [h x]; rfl
def WayI (L : List Fl) : Prop := ∀ x ∈ L, 0 ≤ kd x ∧ kd x ≤ 5000 ∧ checkF x.2.1 = 0 ∧ (x.1 = false → x.2.1.Cells = [])
theorem WayI.filter {L : List Fl} (h : WayI L) (p : Fl → Bool) : WayI (L.filter p) := fun x hx => h x (List.mem_filter.1 hx).1
theorem WayI.app {L M : List Fl} (h : WayI L) (k : WayI M) : WayI (L ++ M) := fun x hx => by
  rcases List.mem_append.1 hx with hx | hx
  · exact h x hx
  · exact k x hx
theorem OutV.cases {v : AVal} {L : List Fl} (h : OutV v L) : ∃ ov, v = .lst ov (L.map outA) ∧ (ov = .nil ∨ ov = .app 6) := by
  rcases h with ⟨rfl, rfl⟩ | rfl
  · exact ⟨.nil, rfl, .inl rfl⟩
  · exact ⟨.app 6, rfl, .inr rfl⟩
end Go.Proofs.Ytpdajkbfemcdlaa
namespace Go.Proofs.Ytpdajkbfemcdlaa
open Go.Ge
structure TwoR (h : List HObj) (nid e f : Nat) (i j : Int) (fs : List Fault) (net : NetP) (em eo : Lk) (Ms : List Fl) (oe of : List Nat) : Prop where
  nr : NetR h nid fs net.1 Ms
  ms : Ms.map (·.2) = net.2
  way : WayI Ms
  erm : EndR h e oe i j em
  ero : EndR h f of j i eo
  ne : nid ≠ e
  nf : nid ≠ f
  ef : e ≠ f
  doe : ∀ x ∈ oe, x ≠ nid ∧ x ≠ f ∧ x ∉ of ∧ x < h.length
  dof : ∀ x ∈ of, x ≠ nid ∧ x ≠ e ∧ x < h.length
  ln : nid < h.length
  le : e < h.length
  lf : f < h.length
def Two (h : List HObj) (nid e f : Nat) (i j : Int) (fs : List Fault) (net : NetP) (em eo : Lk) : Prop := ∃ Ms oe of, TwoR h nid e f i j fs net em eo Ms oe of
theorem TwoR.swap {h : List HObj} {nid e f : Nat} {i j : Int} {fs : List Fault} {net : NetP} {em eo : Lk} {Ms : List Fl} {oe of : List Nat} (t : TwoR h nid e f i j fs net em eo Ms oe of) : TwoR h nid f e j i fs net eo em Ms of oe :=
  ⟨t.nr, t.ms, t.way, t.ero, t.erm, t.nf, t.ne, t.ef.symm, fun x hx => ⟨(t.dof x hx).1, (t.dof x hx).2.1, fun h => (t.doe x h).2.2.1 hx, (t.dof x hx).2.2⟩, fun x hx => ⟨(t.doe x hx).1, (t.doe x hx).2.1, (t.doe x hx).2.2.2⟩, t.ln, t.lf, t.le⟩
theorem Two.swap {h : List HObj} {nid e f : Nat} {i j : Int} {fs : List Fault} {net : NetP} {em eo : Lk} (t : Two h nid e f i j fs net em eo) : Two h nid f e j i fs net eo em := by
  obtain ⟨Ms, oe, of, t⟩ := t
  exact ⟨Ms, of, oe, t.swap⟩
theorem TwoR.upd {h h' : List HObj} {nid e f : Nat} {i j : Int} {fs : List Fault} {net : NetP} {em em' eo : Lk} {Ms : List Fl} {oe of : List Nat} (t : TwoR h nid e f i j fs net em eo Ms oe of) (q : EndQ h e oe i j em' h') : Two h' nid e f i j fs net em' eo := by
  obtain ⟨oe', q1, q2, q3⟩ := q
  have hl := q2.1
  refine ⟨Ms, oe', of, t.nr.frame q2 ?_, t.ms, t.way, q1, t.ero.frame q2 ?_ ?_, t.ne, t.nf, t.ef, ?_, fun x hx => ⟨(t.dof x hx).1, (t.dof x hx).2.1, Nat.lt_of_lt_of_le (t.dof x hx).2.2 hl⟩, Nat.lt_of_lt_of_le t.ln hl, Nat.lt_of_lt_of_le t.le hl, Nat.lt_of_lt_of_le t.lf hl⟩
  · intro hm
    rcases List.mem_cons.1 hm with hm | hm
    · exact t.ne hm
    · exact (t.doe _ hm).1 rfl
  · intro hm
    rcases List.mem_cons.1 hm with hm | hm
    · exact t.ef hm.symm
    · exact (t.doe _ hm).2.1 rfl
  · intro x hx hm
    rcases List.mem_cons.1 hm with hm | hm
    · exact (t.dof x hx).2.1 hm
    · exact (t.doe _ hm).2.2.1 hx
  · intro x hx
    rcases q3 x hx with h1 | ⟨h1, h2⟩
    · have := t.doe x h1
      exact ⟨this.1, this.2.1, this.2.2.1, Nat.lt_of_lt_of_le this.2.2.2 hl⟩
    · have a1 := t.ln
      have a2 := t.lf
      refine ⟨by omega, by omega, fun hm => ?_, h2⟩
      have := (t.dof x hm).2.2
      omega
theorem TwoR.upn {h h' : List HObj} {nid e f : Nat} {i j : Int} {fs : List Fault} {net net' : NetP} {em eo : Lk} {Ms Ms' : List Fl} {oe of : List Nat} (t : TwoR h nid e f i j fs net em eo Ms oe of) (hn : NetR h' nid fs net'.1 Ms') (hm : Ms'.map (·.2) = net'.2) (hw : WayI Ms') (hf : Fr [nid] h h') : TwoR h' nid e f i j fs net' em eo Ms' oe of := by
  have hl := hf.1
  refine ⟨hn, hm, hw, t.erm.frame hf (by simpa using t.ne.symm) fun x hx => by simpa using (t.doe x hx).1, t.ero.frame hf (by simpa using t.nf.symm) fun x hx => by simpa using (t.dof x hx).1, t.ne, t.nf, t.ef, fun x hx => ?_, fun x hx => ?_, Nat.lt_of_lt_of_le t.ln hl, Nat.lt_of_lt_of_le t.le hl, Nat.lt_of_lt_of_le t.lf hl⟩
  · have := t.doe x hx
    exact ⟨this.1, this.2.1, this.2.2.1, Nat.lt_of_lt_of_le this.2.2.2 hl⟩
  · have := t.dof x hx
    exact ⟨this.1, this.2.1, Nat.lt_of_lt_of_le this.2.2 hl⟩
theorem bucketP_of (L : List Fl) (n : Nat) : (bucket L n).map (·.2) = bucketP (L.map (·.2)) n := by
  unfold bucket bucketP
  rw [List.map_flatMap]
  congr 1
  funext d
  exact filter_snd (isD (d : Int)) (fun x => decide (x.2 = (d : Int))) (fun x => rfl) L
theorem takeM_of {Ms L : List Fl} {net : NetP} {t to : Int} (hm : Ms.map (·.2) = net.2) (hw : WayI Ms) (hs : St (Ms.filter (isHere to t)) L) : L.map (·.2.1) = takeM net t to := by
  have h1 := bucket_of hs 5001 fun x hx => by have := (hw.filter (isHere to t)) x hx; omega
  have h2 : L.map (·.2) = bucketP (net.2.filter (hereP to t)) 5001 := by
    rw [h1, bucketP_of, filter_snd (isHere to t) (hereP to t) (fun x => rfl), hm]
  unfold takeM
  rw [← h2, List.map_map]; rfl
theorem takeN_of {Ms : List Fl} {net : NetP} {t to : Int} (hm : Ms.map (·.2) = net.2) : (Ms.filter fun x => !isHere to t x).map (·.2) = (takeN net t to).2 := by
  unfold takeN
  rw [filter_snd (fun x => !isHere to t x) (fun y => !hereP to t y) (fun x => rfl), hm]
def GotsR (gs : List AVal) (g0 g1 : List Msg) : Prop := ∃ x0 x1, gs = [x0, x1] ∧ GotR x0 g0 ∧ GotR x1 g1
def remP (fs : List Fault) (t : Int) (i : Nat) (s : Sy) : Option Sy := match i with
  | 0 => (end0 fs t s).bind (end1 fs t)
  | 1 => end1 fs t s
  | _ => some s
theorem endP_some {fs : List Fault} {t i : Int} {e : Lk} {n : NetP} {g : List Msg} {r : Lk × NetP × List Msg} (h : endP fs t i e n g = some r) :
    ∃ e1 n', inAll i (1 - i) e (takeM n t i) = some e1 ∧ sendAll fs t (takeN n t i) (outL (emptied e1) i (1 - i) t t) = some n' ∧ r = (outS (emptied e1) t, n', g ++ e1.got) := by
  unfold endP at h
  obtain ⟨e1, h1, h2⟩ := Option.bind_eq_some_iff.1 h
  obtain ⟨n', h3, h4⟩ := Option.bind_eq_some_iff.1 h2
  exact ⟨e1, n', h1, h3, by simpa using h4.symm⟩
theorem inAll_cons {i j : Int} {e e1 : Lk} {m : Msg} {ms : List Msg} (h : inAll i j e (m :: ms) = some e1) : inE e i j m = 0 ∧ inAll i j (inS e i j m) ms = some e1 := by
  unfold inAll at h
  split at h
  · rename_i h0; exact ⟨h0, h⟩
  · cases h
theorem sendAll_cons {fs : List Fault} {t : Int} {n n' : NetP} {m : Msg} {ms : List Msg} (h : sendAll fs t n (m :: ms) = some n') : sendE fs n.1 n.2.length t m = 0 ∧ sendAll fs t (t, n.2 ++ copies fs t m) ms = some n' := by
  unfold sendAll at h
  split at h
  · rename_i h0; exact ⟨h0, h⟩
  · cases h
end Go.Proofs.Ytpdajkbfemcdlaa
