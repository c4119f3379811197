import Derived.Test.YtpdajkbfemcdlaaGeD
import Derived.Test.YtpdajkbfemcdlaaChecked
import Derived.Test.YtpdajkbfemcdlaaFn
import Derived.KernelRfl
namespace Go.Ge
@[go_sem] def AO.m (d t : Nat) : AO := ⟨some d, .move false (.t t), none⟩
@[go_sem] def AO.o (d : Nat) (op : AOp) : AO := ⟨some d, op, none⟩
@[go_sem] def AO.g (d : Nat) (op : AOp) (t : Nat) (b : Bool) : AO := ⟨some d, op, some (t, b)⟩
end Go.Ge
set_option linter.unusedSimpArgs false
set_option linter.unusedVariables false
set_option maxRecDepth 10000
namespace Go.Proofs.Ytpdajkbfemcdlaa
open Go.Ge
theorem aw_cut {P : Program} {a : ACode} {K Pm : AState → Prop} {Q : AExit → AState → Prop} {S : AState} (h : aw (ACalls P) a (AExit.then Pm Q) S) (hk : ∀ S', Pm S' → K S') : aw (ACalls P) a (AExit.then K Q) S :=
  aw_mono (CMono_ACalls P) a (fun e S' h => by cases e <;> first | exact hk _ h | exact h) h
theorem condG_cut {P : Program} {v : AVal} {a b : ACode} {K : AState → Prop} {Q : AExit → AState → Prop} {S : AState} (Pm : AState → Prop) (h : condG (ACalls P) v a b (AExit.then Pm Q) S) (hk : ∀ S', Pm S' → K S') : condG (ACalls P) v a b (AExit.then K Q) S := by
  unfold condG at h ⊢
  cases v <;> first | exact ⟨fun e => aw_cut (h.1 e) hk, fun e => aw_cut (h.2 e) hk⟩ | exact h
theorem aopsG_cut {P : Program} {d : Option Nat} {op : AOp} {want : Bool} {v : AVal} {os : List AO} {c : ACode} {K : AState → Prop} {Q Q' : AExit → AState → Prop} {S : AState} (Pm : AState → Prop)
    (h : aopsG (ACalls P) d op want v os S (AExit.then (aw (ACalls P) c (AExit.then Pm Q)) Q' .normal)) (hk : ∀ S', Pm S' → K S') : aopsG (ACalls P) d op want v os S (AExit.then (aw (ACalls P) c (AExit.then K Q)) Q' .normal) := by
  have key : ∀ os S, aops (ACalls P) os S (AExit.then (aw (ACalls P) c (AExit.then Pm Q)) Q' .normal) → aops (ACalls P) os S (AExit.then (aw (ACalls P) c (AExit.then K Q)) Q' .normal) :=
    fun os S h => aops_mono (CMono_ACalls P) os (fun S' h => aw_cut h hk) h
  unfold aopsG at h ⊢
  split at h
  · exact ⟨fun e => key _ _ (h.1 e), fun e => key _ _ (h.2 e)⟩
  · exact key _ _ h
  · exact h.elim
section
variable {α : Type} {f : α → List AVal} {sz : Nat}
theorem flatF_len (hf : ∀ a, (f a).length = sz) (l : List α) : (l.flatMap f).length = l.length * sz := by
  induction l with
  | nil => simp
  | cons a l ih => rw [List.flatMap_cons, List.length_append, ih, hf, List.length_cons, Nat.add_mul]; omega
theorem flatF_split {l : List α} {j : Nat} (h : j < l.length) : l.flatMap f = (l.take j).flatMap f ++ (f l[j] ++ (l.drop (j + 1)).flatMap f) := by
  conv => lhs; rw [← List.take_append_drop j l, List.drop_eq_getElem_cons h]
  rw [List.flatMap_append, List.flatMap_cons]
theorem flatF_get (hf : ∀ a, (f a).length = sz) {l : List α} {j : Nat} (h : j < l.length) {pre rest : List AVal} {off k n : Nat} (hp : pre.length = off) (hk : k + n ≤ sz) :
    ((pre ++ l.flatMap f ++ rest).drop (off + j * sz + k)).take n = ((f l[j]).drop k).take n := by
  have hl : (pre ++ (l.take j).flatMap f).length = off + j * sz := by
    rw [List.length_append, flatF_len hf, List.length_take, hp]; congr 2; omega
  have e : pre ++ l.flatMap f ++ rest = (pre ++ (l.take j).flatMap f) ++ (f l[j] ++ ((l.drop (j + 1)).flatMap f ++ rest)) := by
    rw [flatF_split h]; simp only[List.append_assoc]
  rw [e, ← hl, ← List.drop_drop, List.drop_left, List.drop_append_of_le_length (by rw [hf]; omega), List.take_append_of_le_length (by rw [List.length_drop, hf]; omega)]
theorem flatF_set (hf : ∀ a, (f a).length = sz) {l : List α} {j : Nat} (h : j < l.length) {pre rest : List AVal} {off k : Nat} (hp : pre.length = off) {vs : List AVal} {x : α} (hk : k + vs.length ≤ sz) (hx : fillV (f l[j]) k vs = f x) :
    fillV (pre ++ l.flatMap f ++ rest) (off + j * sz + k) vs = pre ++ (l.set j x).flatMap f ++ rest := by
  have hl : (pre ++ (l.take j).flatMap f).length = off + j * sz := by
    rw [List.length_append, flatF_len hf, List.length_take, hp]; congr 2; omega
  have e : pre ++ l.flatMap f ++ rest = (pre ++ (l.take j).flatMap f) ++ (f l[j] ++ ((l.drop (j + 1)).flatMap f ++ rest)) := by
    rw [flatF_split h]; simp only[List.append_assoc]
  have e2 : pre ++ (l.set j x).flatMap f ++ rest = (pre ++ (l.take j).flatMap f) ++ (f x ++ ((l.drop (j + 1)).flatMap f ++ rest)) := by
    rw [List.set_eq_take_append_cons_drop, if_pos h, List.flatMap_append, List.flatMap_cons]; simp only[List.append_assoc]
  rw [e, e2, ← hx]
  generalize (pre ++ (l.take j).flatMap f) = A at *
  generalize ((l.drop (j + 1)).flatMap f ++ rest) = B
  have h3 := hf l[j]
  unfold fillV
  rw [← hl, List.take_length_add_append, List.take_append_of_le_length (by omega), show A.length + k + vs.length = A.length + (k + vs.length) by omega, List.drop_length_add_append, List.drop_append_of_le_length (by omega)]
  simp only[List.append_assoc]
def SlR (f : α → List AVal) (sz : Nat) (h : List HObj) (id : Nat) (w : AVal) (L : List α) : Prop :=
  w = .lst .nil [] ∧ L = [] ∨ ∃ off cap pre rest, w = .ref id off L.length cap ∧ L.length ≤ cap ∧ h[id]? = some (.cells (pre ++ L.flatMap f ++ rest)) ∧ pre.length = off ∧ rest.length = (cap - L.length) * sz
theorem SlR.frame {h h' : List HObj} {id : Nat} {w : AVal} {L : List α} (hs : SlR f sz h id w L) (he : ∀ o, h[id]? = some o → h'[id]? = some o) : SlR f sz h' id w L := by
  rcases hs with hs | ⟨off, cap, pre, rest, h1, h2, h3, h4, h5⟩
  · exact .inl hs
  · exact .inr ⟨off, cap, pre, rest, h1, h2, he _ h3, h4, h5⟩
theorem SlR.push (hf : ∀ a, (f a).length = sz) (hst : ∀ a, ∀ c ∈ f a, storC c = true ∧ Ge.rdc c = c) {C : CallS} {r : AOpn → AVal} {hp : List HObj} {K : AVal → List HObj → Prop} {bytes : Nat} {x y : AOpn} {id : Nat} {w v : AVal} {o : Own} {L : List α} {a : α}
    (hw : SlR f sz hp id w L) (hx : r x = w) (hy : r y = .lst o [v]) (hv : v.cells = f a) (hvw : v.width = sz) (h1 : (L.length + 1) * bytes ≤ 140737488355328) (h2 : L.length + 1 ≤ 140737488355328)
    (hK : ∀ w' h' id', SlR f sz h' id' w' (L ++ [a]) → (Fr [] hp h' ∧ id' = hp.length ∨ Fr [id] hp h' ∧ id' = id ∧ w ≠ .lst .nil []) → K w' h') : hstep C r hp (.appendR sz bytes x y) K := by
  have hm : ([v].flatMap AVal.cells).map Ge.rdc = f a := by
    rw [List.flatMap_cons, List.flatMap_nil, List.append_nil, hv]
    conv => rhs; rw [← List.map_id (f a)]
    exact List.map_congr_left fun c hc => (hst a c hc).2
  have hfa := hf a
  have he : (L ++ [a]).flatMap f = L.flatMap f ++ f a := by simp
  have hnew : ∀ cap, L.length + 1 ≤ cap → K (.ref hp.length 0 (L.length + 1) cap) (hp ++ [.cells (L.flatMap f ++ f a ++ List.replicate ((cap - (L.length + 1)) * sz) .junk)]) := by
    intro cap hc
    refine hK _ _ hp.length (.inr ⟨0, cap, [], List.replicate ((cap - (L.length + 1)) * sz) .junk, by simp, by simp; omega, ?_, rfl, by simp⟩) (.inl ⟨Fr.app, rfl⟩)
    rw [List.getElem?_append_right (Nat.le_refl _), Nat.sub_self, he]; simp
  simp only[hstep,srcH,srcW,hx,hy,hm]
  refine ⟨by simpa using hvw, ?_⟩
  rcases hw with ⟨rfl, rfl⟩ | ⟨off, cap, pre, rest, rfl, hc, hh, hpre, hrest⟩
  · simp only[List.length_singleton]
    refine ⟨by simpa using h1, by omega, fun e => by omega, fun _ => ?_⟩
    intro cap hc
    have := hnew cap (by simpa using hc)
    simpa using this
  · simp only[List.length_singleton]
    have hl := flatF_len hf L
    refine ⟨h1, h2, fun e => by omega, fun _ hlt => ?_, fun _ hge => ?_⟩
    · simp only[hh]
      have hmul : L.length * sz + (cap - L.length) * sz = cap * sz := by rw [← Nat.add_mul]; congr 1; omega
      have hone : (cap - L.length) * sz = (cap - (L.length + 1)) * sz + sz := by
        have : cap - L.length = (cap - (L.length + 1)) + 1 := by omega
        rw [this, Nat.add_mul]; omega
      refine ⟨by simp only[List.length_append]; omega, ?_⟩
      refine hK _ _ id (.inr ⟨off, cap, pre, rest.drop sz, by simp, by simp; omega, ?_, hpre, by rw [List.length_drop, List.length_append, hrest, hone]; simp⟩) (.inr ⟨Fr.set (by simp), rfl, by simp⟩)
      have hlt' := lt_of_get hh
      rw [List.getElem?_set_self hlt']
      congr 2
      unfold fillV
      have e1 : (pre ++ L.flatMap f).length = off + L.length * sz := by rw [List.length_append, hl, hpre]
      rw [hfa, ← e1, List.take_left, he, List.drop_length_add_append]
      simp only[List.append_assoc]
    · have hsrc : srcH sz hp (.ref id off L.length cap) = some (L.length, L.flatMap f) := by
        simp only[srcH]
        split
        · rename_i e
          have : L = [] := List.eq_nil_of_length_eq_zero e
          subst this; rfl
        · rw [hh]
          simp only[]
          rw [if_pos (by simp only[List.length_append,hl,hpre]; omega)]
          congr 2
          have e1 : pre.length = off := hpre
          rw [List.append_assoc, ← e1, List.drop_left, ← hl, List.take_left]
          conv => rhs; rw [← List.map_id (L.flatMap f)]
          refine List.map_congr_left fun c hc => ?_
          obtain ⟨x, _, hx⟩ := List.mem_flatMap.1 hc
          exact (hst x c hx).2
      simp only[srcH] at hsrc
      rw [hsrc]
      simp only[]
      intro cap' hc'
      exact hnew cap' hc'
theorem SlR.tail (hf : ∀ a, (f a).length = sz) {h : List HObj} {id off len cap : Nat} {a : α} {L : List α} (hs : SlR f sz h id (.ref id off len cap) (a :: L)) : SlR f sz h id (.ref id (off + sz) (len - 1) (cap - 1)) L ∧ len = L.length + 1 ∧ 1 ≤ cap := by
  rcases hs with ⟨e, _⟩ | ⟨off', cap', pre, rest, e, hc, hh, hpre, hrest⟩
  · cases e
  · cases e
    refine ⟨.inr ⟨off + sz, cap - 1, pre ++ f a, rest, by simp, by simp at hc; omega, ?_, by rw [List.length_append, hpre, hf], ?_⟩, by simp, by simp at hc; omega⟩
    · rw [hh]; simp [List.append_assoc]
    · rw [hrest]; congr 1; simp; omega
theorem SlR.cases {h : List HObj} {id : Nat} {w : AVal} {L : List α} (hs : SlR f sz h id w L) : w = .lst .nil [] ∧ L = [] ∨ ∃ off cap, w = .ref id off L.length cap ∧ L.length ≤ cap := by
  rcases hs with hs | ⟨off', cap', pre, rest, e, hc, hh, hpre, hrest⟩
  · exact .inl hs
  · exact .inr ⟨_, _, e, hc⟩
theorem SlR.get (hf : ∀ a, (f a).length = sz) {h : List HObj} {id off len cap : Nat} {L : List α} (hs : SlR f sz h id (.ref id off len cap) L) (h0 : 0 < L.length) : ∃ cs, h[id]? = some (.cells cs) ∧ off + len * sz ≤ cs.length ∧ len = L.length ∧
    (∀ j (hj : j < L.length) k n, k + n ≤ sz → (cs.drop (off + j * sz + k)).take n = ((f L[j]).drop k).take n) ∧
    (∀ j (hj : j < L.length) k vs x, k + vs.length ≤ sz → fillV (f L[j]) k vs = f x → ∀ h', h'[id]? = some (.cells (fillV cs (off + j * sz + k) vs)) → SlR f sz h' id (.ref id off len cap) (L.set j x)) := by
  rcases hs with ⟨e, _⟩ | ⟨off', cap', pre, rest, e, hc, hh, hpre, hrest⟩
  · cases e
  · cases e
    refine ⟨_, hh, by simp only[List.length_append,flatF_len hf,hpre]; omega, rfl, ?_, ?_⟩
    · intro j hj k n hk
      exact flatF_get hf hj hpre hk
    · intro j hj k vs x hk hx h' hh'
      refine .inr ⟨off, cap, pre, rest, by simp, by simpa using hc, ?_, hpre, by simpa using hrest⟩
      rw [hh', flatF_set hf hj hpre hk hx]
theorem setH_same {h : List HObj} {id : Nat} {x : HObj} (e : h[id]? = some x) : h.set id x = h := by
  obtain ⟨hl, e⟩ := List.getElem?_eq_some_iff.1 e
  rw [← e]; exact List.set_getElem_self _
theorem getD_of_take {a b : List AVal} {i k : Nat} (h : (a.drop i).take 1 = (b.drop k).take 1) : a.getD i .junk = b.getD k .junk := by
  have := congrArg (fun l : List AVal => l[0]?) h
  simp only[List.getElem?_take,List.getElem?_drop] at this
  simp at this
  rw [List.getD_eq_getElem?_getD, List.getD_eq_getElem?_getD, this]
def SlO (f : α → List AVal) (sz : Nat) (h : List HObj) (own : List Nat) (w : AVal) (L : List α) : Prop := ∃ id, SlR f sz h id w L ∧ (w = .lst .nil [] ∨ id ∈ own)
theorem SlO.nil {h : List HObj} {own : List Nat} : SlO f sz h own (.lst .nil []) ([] : List α) := ⟨0, .inl ⟨rfl, rfl⟩, .inl rfl⟩
theorem SlO.frame {h h' : List HObj} {own S : List Nat} {w : AVal} {L : List α} (hs : SlO f sz h own w L) (hf : Fr S h h') (hn : ∀ i ∈ own, i ∉ S) : SlO f sz h' own w L := by
  obtain ⟨id, h1, h2⟩ := hs
  rcases h2 with rfl | h2
  · refine ⟨id, ?_, .inl rfl⟩
    rcases h1 with h1 | ⟨_, _, _, _, e, _⟩
    · exact .inl h1
    · cases e
  · exact ⟨id, h1.frame fun o ho => hf.get (hn id h2) ho, .inr h2⟩
theorem SlO.cases {h : List HObj} {own : List Nat} {w : AVal} {L : List α} (hs : SlO f sz h own w L) : w = .lst .nil [] ∧ L = [] ∨ ∃ id off cap, w = .ref id off L.length cap ∧ L.length ≤ cap ∧ id ∈ own ∧ SlR f sz h id w L := by
  obtain ⟨id, h1, h2⟩ := hs
  rcases h1.cases with ⟨rfl, h3⟩ | ⟨off, cap, rfl, h3⟩
  · exact .inl ⟨rfl, h3⟩
  · exact .inr ⟨id, off, cap, rfl, h3, h2.elim (fun e => by cases e) (fun h => h), h1⟩
theorem SlO.push (hf : ∀ a, (f a).length = sz) (hst : ∀ a, ∀ c ∈ f a, storC c = true ∧ Ge.rdc c = c) {C : CallS} {r : AOpn → AVal} {hp : List HObj} {K : AVal → List HObj → Prop} {bytes : Nat} {x y : AOpn} {own : List Nat} {w v : AVal} {o : Own} {L : List α} {a : α}
    (hw : SlO f sz hp own w L) (hx : r x = w) (hy : r y = .lst o [v]) (hv : v.cells = f a) (hvw : v.width = sz) (h1 : (L.length + 1) * bytes ≤ 140737488355328) (h2 : L.length + 1 ≤ 140737488355328)
    (hK : ∀ w' h' own', SlO f sz h' own' w' (L ++ [a]) → Fr own hp h' → (∀ i ∈ own', i ∈ own ∨ hp.length ≤ i ∧ i < h'.length) → K w' h') : hstep C r hp (.appendR sz bytes x y) K := by
  obtain ⟨id, hw, ho⟩ := hw
  refine hw.push hf hst hx hy hv hvw h1 h2 fun w' h' id' hs hc => ?_
  rcases hc with ⟨hfr, rfl⟩ | ⟨hfr, rfl, hne⟩
  · have hlt : hp.length < h'.length := by
      rcases hs with ⟨_, e⟩ | ⟨_, _, _, _, _, _, e, _⟩
      · simp at e
      · exact lt_of_get e
    exact hK w' h' [hp.length] ⟨_, hs, .inr (by simp)⟩ (hfr.mono (by simp)) (fun i hi => by simp at hi; subst hi; exact .inr ⟨Nat.le_refl _, hlt⟩)
  · have hi := ho.resolve_left hne
    exact hK w' h' own ⟨_, hs, .inr hi⟩ (hfr.mono (fun i h => by simp at h; subst h; exact .inl hi)) (fun i hi => .inl hi)
end
end Go.Proofs.Ytpdajkbfemcdlaa
namespace Go.Proofs.Ytpdajkbfemcdlaa
open Go.Ge
def C.msg_Check : ACode :=
  .seq (.region [.o 1 (.bx true (.t 0)),.o 2 (.move false (.c (.int .i64 0)))]) (
  .seq (.block 0 (.seq (.region [.o 4 (.faddr 0 (.t 1)),.o 5 (.load 2 false 1 (.t 4)),.o 6 (.bin .lss (.t 5) (.c (.int .i64 0))),.m 7 6,.g 8 (.faddr 0 (.t 1)) 7 false,.g 9 (.load 2 false 1 (.t 8)) 7 false,.g 10 (.bin .gtr (.t 9) (.c (.int .i64 3))) 7 false,.o 11 (.pick (.t 7) (.c (.bool true)) (.t 10)),.m 3 11]) (
  .cond (.t 3) (.seq (.region [.o 2 (.move false (.c (.int .i64 1)))]) (
  .ret)) (.seq (.region [.o 13 (.faddr 1 (.t 1)),.o 14 (.load 2 false 1 (.t 13)),.o 15 (.faddr 2 (.t 1)),.o 16 (.load 2 false 1 (.t 15)),.o 17 (.mn (.t 14) [(.t 16)]),.o 18 (.bin .lss (.t 17) (.c (.int .i64 0))),.m 19 18,.g 20 (.faddr 1 (.t 1)) 19 false,.g 21 (.load 2 false 1 (.t 20)) 19 false,.g 22 (.faddr 2 (.t 1)) 19 false,.g 23 (.load 2 false 1 (.t 22)) 19 false,.g 24 (.mx (.t 21) [(.t 23)]) 19 false,.g 25 (.bin .gtr (.t 24) (.c (.int .i64 4))) 19 false,.o 26 (.pick (.t 19) (.c (.bool true)) (.t 25)),.m 27 26,.g 28 (.faddr 1 (.t 1)) 27 false,.g 29 (.load 2 false 1 (.t 28)) 27 false,.g 30 (.faddr 2 (.t 1)) 27 false,.g 31 (.load 2 false 1 (.t 30)) 27 false,.g 32 (.bin .eql (.t 29) (.t 31)) 27 false,.o 33 (.pick (.t 27) (.c (.bool true)) (.t 32)),.m 12 33]) (
  .cond (.t 12) (.seq (.region [.o 2 (.move false (.c (.int .i64 16)))]) (
  .ret)) (.seq (.region [.o 35 (.faddr 3 (.t 1)),.o 36 (.load 2 false 1 (.t 35)),.o 37 (.bin .lss (.t 36) (.c (.int .i64 0))),.m 38 37,.g 39 (.faddr 3 (.t 1)) 38 false,.g 40 (.load 2 false 1 (.t 39)) 38 false,.g 41 (.bin .gtr (.t 40) (.c (.int .i64 2147483647))) 38 false,.o 42 (.pick (.t 38) (.c (.bool true)) (.t 41)),.m 34 42]) (
  .cond (.t 34) (.seq (.region [.o 2 (.move false (.c (.int .i64 2)))]) (
  .ret)) (.seq (.region [.o 44 (.faddr 0 (.t 1)),.o 45 (.load 2 false 1 (.t 44)),.o 46 (.bin .eql (.t 45) (.c (.int .i64 3))),.m 47 46,.g 48 (.faddr 5 (.t 1)) 47 true,.g 49 (.load 2 false 1 (.t 48)) 47 true,.g 50 (.len (.t 49)) 47 true,.g 51 (.bin .gtr (.t 50) (.c (.int .i64 0))) 47 true,.o 52 (.pick (.t 47) (.t 51) (.c (.bool false))),.m 43 52]) (
  .cond (.t 43) (.seq (.region [.o 2 (.move false (.c (.int .i64 3)))]) (
  .ret)) (.skip)))))))))) (
  .seq (.region [.o 53 (.faddr 5 (.t 1)),.o 54 (.load 2 false 1 (.t 53)),.o 55 (.call true F.grid_Check [(.t 54)]),.m 2 55]) (
  .ret)))
def R.msg_Check : List ARes := [.t 2]
set_option maxRecDepth 100000 in
theorem K.msg_Check : ckFun Try.prog Try.f74 C.msg_Check R.msg_Check = true := by kernel_rfl
def C.grid_Check : ACode :=
  .seq (.region [.o 2 (.move false (.c (.int .i64 0)))]) (
  .seq (.seq (.region [.m 5 0,.o 6 (.len (.t 5)),.o 7 (.bin .gtr (.t 6) (.c (.int .i64 400)))]) (
  .cond (.t 7) (.seq (.region [.o 2 (.move false (.c (.int .i64 2)))]) (
  .ret)) (.skip))) (
  .seq (.seq (.region [.m 8 0,.o 9 (.len (.t 8)),.o 10 (.move false (.c (.int .i64 0)))]) (
  .block 0 (.loop (.seq (.region [.o 11 (.bin .lss (.t 10) (.t 9))]) (
  .seq (.cond (.t 11) (.skip) (.exit 0)) (
  .seq (.block 1 (.seq (.region [.m 12 10,.o 13 (.iaddr 2 (.t 8) (.t 10)),.o 14 (.load 2 true 2 (.t 13)),.o 4 (.alloc false [(.int .i64 0), (.int .i64 0)]),.m 3 12,⟨none, .store 2 (.t 4) (.t 14), none⟩]) (
  .seq (.seq (.region [.o 15 (.faddr 0 (.t 4)),.o 16 (.load 2 false 1 (.t 15)),.o 17 (.call true F.grid_on [(.t 16)]),.o 18 (.un .not (.t 17)),.m 19 18,.g 20 (.faddr 1 (.t 4)) 19 false,.g 21 (.load 2 false 1 (.t 20)) 19 false,.g 22 (.call true F.grid_on [(.t 21)]) 19 false,.g 23 (.un .not (.t 22)) 19 false,.o 24 (.pick (.t 19) (.c (.bool true)) (.t 23))]) (
  .cond (.t 24) (.seq (.region [.o 2 (.move false (.c (.int .i64 17)))]) (
  .ret)) (.skip))) (
  .seq (.drawn [0, 1, 2, 3, 4, 5, 6, 7, 8, 9, 10, 11] [0, 1, 3, 7, 7, 23, 63, 127, 7, 511, 1023, 2047] [.m 25 3,.o 26 (.bin .gtr (.t 25) (.c (.int .i64 0))),.m 27 26,.g 28 (.move false (.t 0)) 27 true,.g 29 (.move false (.t 3)) 27 true,.g 30 (.bin .sub (.t 29) (.c (.int .i64 1))) 27 true,.g 31 (.iaddr 2 (.t 28) (.t 30)) 27 true,.g 32 (.load 0 true 2 (.t 31)) 27 true,.g 33 (.load 1 true 2 (.t 4)) 27 true,.g 34 (.call false F.grid_order [(.t 32), (.t 33)]) 27 true,.g 35 (.bin .geq (.t 34) (.c (.int .i64 0))) 27 true,.o 36 (.pick (.t 27) (.t 35) (.c (.bool false)))]) (
  .cond (.t 36) (.seq (.region [.o 2 (.move false (.c (.int .i64 9)))]) (
  .ret)) (.skip)))))) (
  .region [.o 37 (.bin .add (.t 10) (.c (.int .i64 1))),.m 10 37]))))))) (
  .seq (.region [.o 2 (.move false (.c (.int .i64 0)))]) (
  .ret))))
def R.grid_Check : List ARes := [.t 2]
set_option maxRecDepth 100000 in
theorem K.grid_Check : ckFun Try.prog Try.f158 C.grid_Check R.grid_Check = true := by kernel_rfl
def C.grid_on : ACode :=
  .seq (.region [.o 2 (.move false (.c (.bool false)))]) (
  .seq (.region [.m 3 0,.o 4 (.bin .geq (.t 3) (.c (.int .i64 (-64)))),.m 5 4,.g 6 (.move false (.t 0)) 5 true,.g 7 (.bin .lss (.t 6) (.c (.int .i64 64))) 5 true,.o 8 (.pick (.t 5) (.t 7) (.c (.bool false))),.m 2 8]) (
  .ret))
def R.grid_on : List ARes := [.t 2]
set_option maxRecDepth 100000 in
theorem K.grid_on : ckFun Try.prog Try.f197 C.grid_on R.grid_on = true := by kernel_rfl
def C.grid_order : ACode :=
  .seq (.region [.o 2 (.bx false (.t 0)),.o 3 (.bx false (.t 1)),.o 4 (.move false (.c (.int .i64 0)))]) (
  .seq (.seq (.region [.o 6 (.faddr 1 (.t 2)),.o 7 (.load 2 false 1 (.t 6)),.o 8 (.faddr 1 (.t 3)),.o 9 (.load 2 false 1 (.t 8)),.o 10 (.call true F.cmp_Compare_int [(.t 7), (.t 9)]),.m 5 10]) (
  .seq (.region [.m 11 5,.o 12 (.bin .neq (.t 11) (.c (.int .i64 0)))]) (
  .cond (.t 12) (.seq (.region [.m 13 5,.m 4 13]) (
  .ret)) (.skip)))) (
  .seq (.region [.o 14 (.faddr 0 (.t 2)),.o 15 (.load 2 false 1 (.t 14)),.o 16 (.faddr 0 (.t 3)),.o 17 (.load 2 false 1 (.t 16)),.o 18 (.call true F.cmp_Compare_int [(.t 15), (.t 17)]),.m 4 18]) (
  .ret)))
def R.grid_order : List ARes := [.t 4]
set_option maxRecDepth 100000 in
theorem K.grid_order : ckFun Try.prog Try.f198 C.grid_order R.grid_order = true := by kernel_rfl
def C.cmp_Compare_int : ACode :=
  .seq (.region [.o 4 (.move false (.c (.int .i64 0)))]) (
  .seq (.region [.m 7 0,.o 8 (.call true F.cmp_isNaN_int [(.t 7)]),.m 5 8]) (
  .seq (.region [.m 9 1,.o 10 (.call true F.cmp_isNaN_int [(.t 9)]),.m 6 10]) (
  .seq (.seq (.region [.m 11 5]) (
  .cond (.t 11) (.seq (.seq (.region [.m 12 6]) (
  .cond (.t 12) (.seq (.region [.o 4 (.move false (.c (.int .i64 0)))]) (
  .ret)) (.skip))) (
  .seq (.region [.o 4 (.move false (.c (.int .i64 (-1))))]) (
  .ret))) (.skip))) (
  .seq (.seq (.region [.m 13 6]) (
  .cond (.t 13) (.seq (.region [.o 4 (.move false (.c (.int .i64 1)))]) (
  .ret)) (.skip))) (
  .seq (.seq (.region [.m 14 0,.m 15 1,.o 16 (.bin .lss (.t 14) (.t 15))]) (
  .cond (.t 16) (.seq (.region [.o 4 (.move false (.c (.int .i64 (-1))))]) (
  .ret)) (.skip))) (
  .seq (.seq (.region [.m 17 0,.m 18 1,.o 19 (.bin .gtr (.t 17) (.t 18))]) (
  .cond (.t 19) (.seq (.region [.o 4 (.move false (.c (.int .i64 1)))]) (
  .ret)) (.skip))) (
  .seq (.region [.o 4 (.move false (.c (.int .i64 0)))]) (
  .ret))))))))
def R.cmp_Compare_int : List ARes := [.t 4]
set_option maxRecDepth 100000 in
theorem K.cmp_Compare_int : ckFun Try.prog Try.f215 C.cmp_Compare_int R.cmp_Compare_int = true := by kernel_rfl
def C.cmp_isNaN_int : ACode :=
  .seq (.region [.o 2 (.move false (.c (.bool false)))]) (
  .seq (.region [.m 3 0,.m 4 0,.o 5 (.bin .neq (.t 3) (.t 4)),.m 2 5]) (
  .ret))
def R.cmp_isNaN_int : List ARes := [.t 2]
set_option maxRecDepth 100000 in
theorem K.cmp_isNaN_int : ckFun Try.prog Try.f230 C.cmp_isNaN_int R.cmp_isNaN_int = true := by kernel_rfl
end Go.Proofs.Ytpdajkbfemcdlaa
namespace Go.Proofs.Ytpdajkbfemcdlaa
open Go.Ge
def cmpI (a b : Int) : Int := if a < b then -1 else if a > b then 1 else 0
def orderC (a b : Cell) : Int := if cmpI a.Y b.Y ≠ 0 then cmpI a.Y b.Y else cmpI a.X b.X
def cellLt (a b : Cell) : Prop := a.Y < b.Y ∨ a.Y = b.Y ∧ a.X < b.X
instance (a b : Cell) : Decidable (cellLt a b) := by unfold cellLt; exact inferInstance
theorem orderC_lt (a b : Cell) : orderC a b ≥ 0 ↔ ¬cellLt a b := by
  unfold orderC cmpI cellLt
  split <;> (repeat split) <;> (repeat split at *) <;> omega
def onG (n : Int) : Prop := -64 ≤ n ∧ n < 64
instance (n : Int) : Decidable (onG n) := by unfold onG; exact inferInstance
def cellsF : Option Cell → List Cell → Int
  | _, [] => 0
  | p, c :: r => if ¬onG c.X ∨ ¬onG c.Y then 17 else if (∃ q ∈ p, ¬cellLt q c) then 9 else cellsF (some c) r
def cellsFault (l : List Cell) : Int := if l.length > 400 then 2 else cellsF none l
def prevC (l : List Cell) (i : Nat) : Option Cell := if i = 0 then none else l[i - 1]?
theorem cellsF_step {l : List Cell} {i : Nat} (h : i < l.length) : cellsF (prevC l i) (l.drop i) = if ¬onG l[i].X ∨ ¬onG l[i].Y then 17 else if (∃ q ∈ prevC l i, ¬cellLt q l[i]) then 9 else cellsF (prevC l (i + 1)) (l.drop (i + 1)) := by
  rw [List.drop_eq_getElem_cons h, cellsF]
  have : prevC l (i + 1) = some l[i] := by unfold prevC; simp [h]
  rw [this]
def msgFault (m : Msg) : Int :=
  if m.Kind < 0 ∨ m.Kind > 3 then 1 else if m.From < 0 ∨ m.From > 4 ∨ m.To < 0 ∨ m.To > 4 ∨ m.From = m.To then 16
  else if m.Seq < 0 ∨ m.Seq > 2147483647 then 2 else if m.Kind = 3 ∧ m.Cells.length ≠ 0 then 3 else 0
def checkF (m : Msg) : Int := if msgFault m ≠ 0 then msgFault m else cellsFault m.Cells
theorem isNaN_ok (a : Int) (h : List HObj) : ACalls Try.prog F.cmp_isNaN_int [.int .i64 a] h (fun r h' => r = .bool false ∧ h' = h) := by
  refine ACalls.of_aw Try.func230 K.cmp_isNaN_int (by simp [Try.f230]) ?_
  generalize hQ : retQ R.cmp_isNaN_int _ = Q
  simp (disch:=first|assumption|omega) only[C.cmp_isNaN_int,go_sem,↓reduceIte,Nat.reduceEqDiff,reduceCtorEq,reduceIte,decide_false,not_true_eq_false,Bool.true_and,int_bne]
  subst hQ
  simp (disch:=first|assumption|omega) only[R.cmp_isNaN_int,go_sem,↓reduceIte,reduceIte]
theorem Compare_ok (a b : Int) (h : List HObj) : ACalls Try.prog F.cmp_Compare_int [.int .i64 a, .int .i64 b] h (fun r h' => r = .int .i64 (cmpI a b) ∧ h' = h) := by
  refine ACalls.of_aw Try.func215 K.cmp_Compare_int (by simp [Try.f215]) ?_
  generalize hQ : retQ R.cmp_Compare_int _ = Q
  simp (disch:=first|assumption|omega) only[C.cmp_Compare_int,go_sem,↓reduceIte,reduceCtorEq,reduceIte,Int.reduceNeg,Bool.true_and]
  refine callG_ok (isNaN_ok a _) (by simp (disch:=first|assumption|omega) only[go_sem]) ?_
  rintro _ _ ⟨rfl, hhh⟩
  try rw [hhh]
  clear hhh
  simp (disch:=first|assumption|omega) only[go_sem,↓reduceIte,Nat.reduceEqDiff,reduceIte,Int.reduceNeg,Bool.true_and]
  refine callG_ok (isNaN_ok b _) (by simp (disch:=first|assumption|omega) only[go_sem]) ?_
  rintro _ _ ⟨rfl, hhh⟩
  try rw [hhh]
  clear hhh
  simp (disch:=first|assumption|omega) only[go_sem,↓reduceIte,Nat.reduceEqDiff,reduceCtorEq,reduceIte,Int.reduceNeg,Bool.true_and]
  refine condG_if (fun hlt => ?_) fun hge => ?_
  · simp (disch:=first|assumption|omega) only[go_sem,Int.reduceNeg,Bool.true_and]
    subst hQ
    simp (disch:=first|assumption|omega) only[R.cmp_Compare_int,go_sem,↓reduceIte,reduceIte,Int.reduceNeg,Bool.true_and]
    rw [cmpI, if_pos hlt]
  · simp (disch:=first|assumption|omega) only[go_sem,↓reduceIte,Nat.reduceEqDiff,reduceCtorEq,reduceIte,Bool.true_and]
    refine condG_if (fun hlt2 => ?_) fun hge2 => ?_
    · simp (disch:=first|assumption|omega) only[go_sem,Bool.true_and]
      subst hQ
      simp (disch:=first|assumption|omega) only[R.cmp_Compare_int,go_sem,↓reduceIte,reduceIte,Bool.true_and]
      rw [cmpI, if_neg hge, if_pos hlt2]
    · simp (disch:=first|assumption|omega) only[go_sem,Bool.true_and]
      subst hQ
      simp (disch:=first|assumption|omega) only[R.cmp_Compare_int,go_sem,↓reduceIte,reduceIte,Bool.true_and]
      rw [cmpI, if_neg hge, if_neg hge2]
theorem order_ok (a b : Cell) (h : List HObj) : ACalls Try.prog F.grid_order [cellA a, cellA b] h (fun r h' => r = .int .i64 (orderC a b) ∧ h' = h) := by
  refine ACalls.of_aw Try.func198 K.grid_order (by simp [Try.f198]) ?_
  generalize hQ : retQ R.grid_order _ = Q
  simp (disch:=first|assumption|omega) only[C.grid_order,go_sem,↓reduceIte,Nat.reduceEqDiff,Nat.reduceLeDiff,reduceIte,Bool.true_and]
  simp (disch:=first|assumption|omega) only[cellA,go_sem,↓reduceIte,Nat.reduceEqDiff,Nat.reduceAdd,Nat.reduceLT,reduceIte,Int.reduceLT,Int.reduceAdd,Bool.true_and]
  refine callG_ok (Compare_ok a.Y b.Y _) (by simp (disch:=first|assumption|omega) only[go_sem]) ?_
  rintro _ _ ⟨rfl, hhh⟩
  try rw [hhh]
  clear hhh
  simp (disch:=first|assumption|omega) only[go_sem,↓reduceIte,reduceIte,Bool.true_and,int_bne]
  refine condG_ifn (fun hb => ?_) fun hb => ?_
  · simp (disch:=first|assumption|omega) only[go_sem,↓reduceIte,Nat.reduceEqDiff,reduceIte,Bool.true_and]
    subst hQ
    simp (disch:=first|assumption|omega) only[R.grid_order,go_sem,↓reduceIte,reduceIte,Bool.true_and]
    rw [orderC, if_pos hb]
  · simp (disch:=first|assumption|omega) only[go_sem,↓reduceIte,Nat.reduceEqDiff,Nat.reduceAdd,Nat.reduceLeDiff,reduceIte,Int.reduceAdd,Bool.true_and]
    refine callG_ok (Compare_ok a.X b.X _) (by simp (disch:=first|assumption|omega) only[go_sem]) ?_
    rintro _ _ ⟨rfl, hhh⟩
    try rw [hhh]
    clear hhh
    simp (disch:=first|assumption|omega) only[go_sem,↓reduceIte,reduceIte,Bool.true_and]
    subst hQ
    simp (disch:=first|assumption|omega) only[R.grid_order,go_sem,↓reduceIte,reduceIte,Bool.true_and]
    rw [orderC, if_neg (by simp [hb])]
theorem on_ok (n : Int) (h : List HObj) : ACalls Try.prog F.grid_on [.int .i64 n] h (fun r h' => r = .bool (decide (onG n)) ∧ h' = h) := by
  refine ACalls.of_aw Try.func197 K.grid_on (by simp [Try.f197]) ?_
  generalize hQ : retQ R.grid_on _ = Q
  simp (disch:=first|assumption|omega) only[C.grid_on,go_sem,↓reduceIte,reduceCtorEq,reduceIte,Int.reduceNeg,Bool.true_and]
  refine aopsG_if (fun h1 => ?_) fun h1 => ?_
  · simp (disch:=first|assumption|omega) only[h1,go_sem,↓reduceIte,Nat.reduceEqDiff,reduceCtorEq,reduceIte,cond_true,Int.reduceNeg,decide_true,Bool.true_and]
    subst hQ
    simp (disch:=first|assumption|omega) only[R.grid_on,go_sem,↓reduceIte,reduceIte,Bool.true_and]
    have : decide (n < 64) = decide (onG n) := by
      unfold onG; by_cases h2 : n < 64 <;> simp [h1, h2]
    rw [this]
  · simp (disch:=first|assumption|omega) only[h1,go_sem,↓reduceIte,Nat.reduceEqDiff,reduceIte,cond_false,Int.reduceNeg,decide_false,Bool.true_and]
    subst hQ
    simp (disch:=first|assumption|omega) only[R.grid_on,go_sem,↓reduceIte,reduceIte,Bool.true_and]
    have : ¬ onG n := by unfold onG; omega
    simp [this]
theorem gridCheck_ok (o : Own) (l : List Cell) (ho : Rdo o) (hl : l.length < 4611686018427387904) (h : List HObj) : ACalls Try.prog F.grid_Check [.lst o (cellsA l)] h (fun r h' => r = .int .i64 (cellsFault l) ∧ h' = h) := by
  refine ACalls.of_aw Try.func158 K.grid_Check (by simp [Try.f158]) ?_
  generalize hQ : retQ R.grid_Check _ = Q
  simp (disch:=first|assumption|omega) only[C.grid_Check,go_sem,↓reduceIte,reduceCtorEq,reduceIte,Bool.true_and]
  refine condG_if (fun h4 => ?_) fun h4 => ?_
  · simp (disch:=first|assumption|omega) only[go_sem,Bool.true_and]
    subst hQ
    simp (disch:=first|assumption|omega) only[R.grid_Check,go_sem,↓reduceIte,reduceIte,Bool.true_and]
    rw [cellsFault, if_pos (by omega)]
  · have h5 : ¬ l.length > 400 := by omega
    simp (disch:=first|assumption|omega) only[go_sem,↓reduceIte,reduceCtorEq,reduceIte,Bool.true_and]
    refine aw_count (fun d S => ∃ (i : Nat), i + d = l.length ∧ S.env 10 = .int .i64 i ∧ S.env 9 = .int .i64 l.length ∧ S.env 8 = .lst o (cellsA l) ∧ S.env 0 = .lst o (cellsA l) ∧ cellsF none l = cellsF (prevC l i) (l.drop i) ∧ S.heap = h) (n := l.length) ⟨0, by simp [go_sem, prevC]⟩ ?_
    rintro d S ⟨i, hi, e10, e9, e8, e0, hf, eh⟩
    simp (disch:=first|assumption|omega) only[e10,e9,go_sem,↓reduceIte,reduceIte,Int.ofNat_lt,Bool.true_and]
    refine condG_if (fun hlt => ?_) fun hge => ?_
    · have hlt : i < l.length := by omega
      have hat := at_cells hlt
      rw [cellsF_step hlt] at hf
      simp (disch:=first|assumption|omega) only[e10,e8,hat,cellA,hlt,go_sem,↓reduceIte,Nat.reduceEqDiff,Nat.reduceAdd,Nat.reduceLeDiff,reduceIte,Int.natCast_nonneg,Int.ofNat_lt,Int.reduceAdd,decide_true,Bool.true_and]
      by_cases hx : onG l[i].X
      · refine callG_ok (on_ok l[i].X _) (by simp (disch:=first|assumption|omega) only[go_sem]) ?_
        rintro _ _ ⟨rfl, hhh⟩
        try rw [hhh]
        clear hhh
        simp (disch:=first|assumption|omega) only[hx,go_sem,↓reduceIte,Nat.reduceEqDiff,Nat.reduceAdd,Nat.reduceLeDiff,Nat.reduceLT,reduceIte,Int.reduceLT,Int.reduceAdd,decide_true,Bool.true_and]
        by_cases hy : onG l[i].Y
        · refine callG_ok (on_ok l[i].Y _) (by simp (disch:=first|assumption|omega) only[go_sem]) ?_
          rintro _ _ ⟨rfl, hhh⟩
          try rw [hhh]
          clear hhh
          simp (disch:=first|assumption|omega) only[hy,go_sem,↓reduceIte,Nat.reduceEqDiff,reduceIte,cond_false,decide_true,Bool.true_and,alS]
          rw [if_neg (by simp [hx, hy])] at hf
          refine aopsG_if (fun h0 => ?_) fun h0 => ?_
          · have hi0 := h0
            have h0 : 0 < i := by omega
            have hat2 := at_cells (l := l) (i := i - 1) (by omega)
            have ei : ((i - 1 : Nat) : Int) = (i : Int) - 1 := by omega
            rw [ei] at hat2
            have hp : prevC l i = some l[i - 1] := by unfold prevC; rw [if_neg (by omega), List.getElem?_eq_getElem (by omega)]
            have hlt2 : i - 1 < l.length := by omega
            simp (disch:=first|assumption|omega) only[e0,hat2,hi0,cellA,go_sem,↓reduceIte,Nat.reduceEqDiff,reduceCtorEq,Nat.reduceAdd,Nat.reduceLeDiff,reduceIte,Int.reduceAdd,decide_true,Bool.true_and]
            refine ⟨⟨by omega, by omega⟩, ?_⟩
            refine callG_ok (order_ok l[i - 1] l[i] _) (by simp (disch:=first|assumption|omega) only[go_sem]) ?_
            rintro _ _ ⟨rfl, hhh⟩
            try rw [hhh]
            clear hhh
            simp (disch:=first|assumption|omega) only[go_sem,↓reduceIte,Nat.reduceEqDiff,reduceIte,cond_true,Bool.true_and]
            refine condG_if (fun hc => ?_) fun hc => ?_
            · simp (disch:=first|assumption|omega) only[go_sem,Bool.true_and]
              subst hQ
              simp (disch:=first|assumption|omega) only[R.grid_Check,go_sem,↓reduceIte,reduceIte,Bool.true_and]
              rw [cellsFault, if_neg h5, hf, hp, if_pos ⟨_, rfl, (orderC_lt _ _).1 hc⟩]
              exact ⟨rfl, eh⟩
            · simp (disch:=first|assumption|omega) only[e10,e9,e8,e0,eh,go_sem,↓reduceIte,Nat.reduceEqDiff,reduceCtorEq,reduceIte,Bool.true_and]
              rw [hp, if_neg (by rintro ⟨q, hq, hq2⟩; cases hq; exact hc ((orderC_lt _ _).2 hq2))] at hf
              exact ⟨d - 1, by omega, i + 1, by omega, by simp, hf⟩
          · have hp : prevC l i = none := by unfold prevC; rw [if_pos (by omega)]
            rw [hp, if_neg (by simp)] at hf
            simp (disch:=first|assumption|omega) only[e10,e9,e8,e0,eh,h0,go_sem,↓reduceIte,Nat.reduceEqDiff,reduceCtorEq,reduceIte,cond_false,decide_false,Bool.true_and]
            exact ⟨d - 1, by omega, i + 1, by omega, by simp, hf⟩
        · refine callG_ok (on_ok l[i].Y _) (by simp (disch:=first|assumption|omega) only[go_sem]) ?_
          rintro _ _ ⟨rfl, hhh⟩
          try rw [hhh]
          clear hhh
          simp (disch:=first|assumption|omega) only[hy,go_sem,↓reduceIte,Nat.reduceEqDiff,reduceIte,cond_false,decide_false,Bool.true_and]
          subst hQ
          simp (disch:=first|assumption|omega) only[R.grid_Check,go_sem,↓reduceIte,reduceIte,Bool.true_and]
          rw [cellsFault, if_neg h5, hf, if_pos (.inr hy)]
          exact ⟨rfl, eh⟩
      · refine callG_ok (on_ok l[i].X _) (by simp (disch:=first|assumption|omega) only[go_sem]) ?_
        rintro _ _ ⟨rfl, hhh⟩
        try rw [hhh]
        clear hhh
        simp (disch:=first|assumption|omega) only[hx,go_sem,↓reduceIte,Nat.reduceEqDiff,reduceIte,cond_true,decide_false,Bool.true_and]
        subst hQ
        simp (disch:=first|assumption|omega) only[R.grid_Check,go_sem,↓reduceIte,reduceIte,Bool.true_and]
        rw [cellsFault, if_neg h5, hf, if_pos (.inl hx)]
        exact ⟨rfl, eh⟩
    · obtain rfl : i = l.length := by omega
      rw [List.drop_length, cellsF] at hf
      simp (disch:=first|assumption|omega) only[go_sem,↓reduceIte,reduceIte,Bool.true_and]
      subst hQ
      simp (disch:=first|assumption|omega) only[R.grid_Check,go_sem,↓reduceIte,reduceIte,Bool.true_and]
      rw [cellsFault, if_neg h5, hf]
      exact ⟨rfl, eh⟩
theorem Check_ok (o : Own) (m : Msg) (ho : Rdo o) (hl : m.Cells.length < 4611686018427387904) (h : List HObj) : ACalls Try.prog F.msg_Check [msgA o m] h (fun r h' => r = .int .i64 (checkF m) ∧ h' = h) := by
  refine ACalls.of_aw Try.func74 K.msg_Check (by simp [Try.f74]) ?_
  generalize hQ : retQ R.msg_Check _ = Q
  simp (disch:=first|assumption|omega) only[C.msg_Check,go_sem,↓reduceIte,Nat.reduceEqDiff,Nat.reduceLeDiff,reduceIte,Bool.true_and]
  simp (disch:=first|assumption|omega) only[msgA,msgC,go_sem,Nat.reduceAdd,Int.reduceAdd,Bool.true_and]
  iterate 14 (all_goals (try ((first | refine aopsG_ifn (fun hb => ?_) (fun hb => ?_) | refine condG_ifn (fun hb => ?_) (fun hb => ?_) | refine aopsG_if (fun hb => ?_) (fun hb => ?_) | refine condG_if (fun hb => ?_) (fun hb => ?_) | refine aopsG_split (fun hb => ?_) (fun hb => ?_) | refine condG_split (fun hb => ?_) (fun hb => ?_)) <;> simp (disch:=first|assumption|omega) only[hb,go_sem,↓reduceIte,Nat.reduceEqDiff,Nat.reduceAdd,Nat.reduceLeDiff,Nat.reduceLT,reduceIte,cond_true,cond_false,Int.reduceLT,Int.reduceAdd,decide_true,decide_false,Bool.true_and,int_beq])))
  all_goals (try omega)
  all_goals first
    | (refine callG_ok (gridCheck_ok o m.Cells ho hl _) (by simp (disch:=first|assumption|omega) only[go_sem]) ?_
       rintro _ _ ⟨rfl, hhh⟩
       rw [hhh]
       clear hhh
       simp (disch:=first|assumption|omega) only[go_sem,↓reduceIte,reduceIte,Bool.true_and]
       subst hQ
       simp (disch:=first|assumption|omega) only[R.msg_Check,go_sem,↓reduceIte,reduceIte,Bool.true_and]
       have : msgFault m = 0 := by unfold msgFault; (repeat split) <;> omega
       rw [checkF, if_neg (by simp [this])])
    | (subst hQ
       simp (disch:=first|assumption|omega) only[R.msg_Check,go_sem,↓reduceIte,reduceIte,Bool.true_and]
       refine congrArg (AVal.int .i64) ?_
       have : msgFault m ≠ 0 := by unfold msgFault; (repeat split) <;> omega
       rw [checkF, if_pos this]
       unfold msgFault; (repeat split) <;> omega)
end Go.Proofs.Ytpdajkbfemcdlaa
namespace Go.Proofs.Ytpdajkbfemcdlaa
open Go.Ge
def C.msg_Copy : ACode :=
  .seq (.region [.o 1 (.bx true (.t 0)),.o 2 (.alloc false [(.int .i64 0), (.int .i64 0), (.int .i64 0), (.int .i64 0), (.int .u32 0), (.lst .nil [])])]) (
  .seq (.region [.o 3 (.faddr 5 (.t 1)),.o 4 (.load 2 false 1 (.t 3)),.o 5 (.call true F.slices_Clone_Cell [(.t 4)]),.o 6 (.faddr 5 (.t 1)),⟨none, .store 1 (.t 6) (.t 5), none⟩]) (
  .seq (.region [.o 7 (.load 2 true 6 (.t 1)),⟨none, .store 6 (.t 2) (.t 7), none⟩]) (
  .ret)))
def R.msg_Copy : List ARes := [.c 2 true 6]
set_option maxRecDepth 100000 in
theorem K.msg_Copy : ckFun Try.prog Try.f49 C.msg_Copy R.msg_Copy = true := by kernel_rfl
def C.slices_Clone_Cell : ACode :=
  .seq (.region [.o 2 (.move false (.c (.lst .nil [])))]) (
  .seq (.seq (.region [.m 3 0,.o 4 (.isnil false false (.t 3))]) (
  .cond (.t 4) (.seq (.region [.o 2 (.move false (.c (.lst .nil [])))]) (
  .ret)) (.skip))) (
  .seq (.region [.o 5 (.buildS false 2 []),.m 6 0,.o 7 (.append 2 16 (.t 5) (.t 6)),.o 2 (.move true (.t 7))]) (
  .ret)))
def R.slices_Clone_Cell : List ARes := [.t 2]
set_option maxRecDepth 100000 in
theorem K.slices_Clone_Cell : ckFun Try.prog Try.f148 C.slices_Clone_Cell R.slices_Clone_Cell = true := by kernel_rfl
end Go.Proofs.Ytpdajkbfemcdlaa
namespace Go.Proofs.Ytpdajkbfemcdlaa
open Go.Ge
theorem CloneCell_ok (o : Own) (l : List Cell) (ho : Rdn o l) (hl : l.length * 16 ≤ reachBytes) (h : List HObj) :
    ACalls Try.prog F.slices_Clone_Cell [.lst o (cellsA l)] h (fun r h' => (∃ o', r = .lst o' (cellsA l) ∧ (o' = .nil ∧ l = [] ∨ o' = .app 2)) ∧ h' = h) := by
  have h1 := ho.1
  refine ACalls.of_aw Try.func148 K.slices_Clone_Cell (by simp [Try.f148]) ?_
  generalize hQ : retQ R.slices_Clone_Cell _ = Q
  simp (disch:=first|assumption|omega) only[C.slices_Clone_Cell,go_sem,↓reduceIte,reduceCtorEq,reduceIte,Bool.true_and]
  refine aops_isnilR (o := o) (xs := cellsA l) (by simp (disch:=first|assumption|omega) only[go_sem,↓reduceIte,reduceIte]) h1 (fun e => by rw [ho.2 e]; rfl) fun b hb => ?_
  cases b
  · simp (disch:=first|assumption|omega) only[go_sem,↓reduceIte,Nat.reduceEqDiff,reduceCtorEq,Nat.reduceLeDiff,reduceIte,Int.reduceMul,Nat.reduceMul,Bool.true_and]
    refine ⟨fun v hv => ?_, by unfold reachBytes at hl; omega, by unfold reachBytes at hl; omega, ?_⟩
    · obtain ⟨c, _, rfl⟩ := List.mem_map.1 hv; rfl
    subst hQ
    simp (disch:=first|assumption|omega) only[R.slices_Clone_Cell,go_sem,↓reduceIte,reduceIte,Bool.true_and]
    exact ⟨_, rfl, .inr rfl⟩
  · have : l = [] := by
      refine Classical.byContradiction fun h0 => ?_
      have := hb (by simpa [cellsA] using h0)
      cases this
    subst this
    simp (disch:=first|assumption|omega) only[go_sem,↓reduceIte,reduceIte,Bool.true_and]
    subst hQ
    simp (disch:=first|assumption|omega) only[R.slices_Clone_Cell,go_sem,↓reduceIte,reduceIte,Bool.true_and]
    exact ⟨.nil, by simp [cellsA], by simp⟩
end Go.Proofs.Ytpdajkbfemcdlaa
namespace Go.Proofs.Ytpdajkbfemcdlaa
open Go.Ge
def MsgOk (m : Msg) (x : AVal) : Prop := ∃ o, Rdn o m.Cells ∧ m.Cells.length * 16 ≤ reachBytes ∧ x = msgA o m
def MsgsOk : List Msg → List AVal → Prop
  | [], xs => xs = []
  | m :: l, xs => ∃ x ys, xs = x :: ys ∧ MsgOk m x ∧ MsgsOk l ys
theorem MsgsOk.length : ∀ {l : List Msg} {xs : List AVal}, MsgsOk l xs → xs.length = l.length
  | [], xs, h => by simp only[MsgsOk] at h; subst h; rfl
  | m :: l, xs, h => by
    simp only[MsgsOk] at h
    obtain ⟨x, ys, rfl, _, h⟩ := h
    simp [h.length]
theorem MsgsOk.at : ∀ {l : List Msg} {xs : List AVal}, MsgsOk l xs → ∀ (i : Nat) (hi : i < l.length), MsgOk l[i] (at_ xs (i : Int))
  | m :: l, xs, h, 0, _ => by
    simp only[MsgsOk] at h
    obtain ⟨x, ys, rfl, h1, h⟩ := h
    simpa [at_] using h1
  | m :: l, xs, h, i + 1, hi => by
    simp only[MsgsOk] at h
    obtain ⟨x, ys, rfl, h1, h⟩ := h
    have := h.at i (by simpa using hi)
    simpa [at_] using this
end Go.Proofs.Ytpdajkbfemcdlaa
namespace Go.Proofs.Ytpdajkbfemcdlaa
open Go.Ge
structure Lk where
  next : Int
  want : Int
  wait : List (Msg × Int)
  got : List Msg
  owes : Bool
def putM (s : Lk) (self other k : Int) (cs : List Cell) : Msg := ⟨k, self, other, s.next, 0, cs⟩
def putE (s : Lk) (self other k : Int) (cs : List Cell) : Int :=
  if k = 3 then 1 else if checkF (putM s self other k cs) ≠ 0 then checkF (putM s self other k cs) else if s.wait.length = 500 then 6 else 0
def putS (s : Lk) (self other k : Int) (cs : List Cell) : Lk :=
  if putE s self other k cs = 0 then { s with next := s.next + 1, wait := s.wait ++ [(putM s self other k cs, -1)] } else s
def inE (s : Lk) (self other : Int) (m : Msg) : Int :=
  if checkF m ≠ 0 then checkF m else if m.From ≠ other ∨ m.To ≠ self then 16 else if m.Kind = 3 ∧ m.Seq > s.next then 9 else 0
def cutW (q : Int) : List (Msg × Int) → List (Msg × Int)
  | [] => []
  | p :: l => if p.1.Seq < q then cutW q l else p :: l
def inS (s : Lk) (self other : Int) (m : Msg) : Lk :=
  if inE s self other m ≠ 0 then s else if m.Kind = 3 then { s with wait := cutW m.Seq s.wait }
  else if m.Seq = s.want then { s with owes := true, want := s.want + 1, got := s.got ++ [m] } else { s with owes := true }
def clampT (t : Int) : Int := max 0 (min t 2000)
def due (t : Int) (p : Msg × Int) : Bool := decide (p.2 < 0) || decide (t - p.2 ≥ 4)
def mark (t : Int) (p : Msg × Int) : Msg × Int := if due t p then (p.1, t) else p
def outW (t : Int) (l : List (Msg × Int)) (i : Nat) : List (Msg × Int) := (l.take i).map (mark t) ++ l.drop i
def outM (t c : Int) (l : List (Msg × Int)) (i : Nat) : List Msg := ((l.take i).filter (due t)).map fun p => { p.1 with Clock := c }
def outL (s : Lk) (self other t c : Int) : List Msg := outM t c s.wait 8 ++ if s.owes then [⟨3, self, other, s.want, c, []⟩] else []
def outS (s : Lk) (t : Int) : Lk := { s with wait := outW t s.wait 8, owes := false }
structure Lk.ok (s : Lk) (n : Int) : Prop where
  next0 : 0 ≤ s.next
  next1 : s.next ≤ n
  want0 : 0 ≤ s.want
  want1 : s.want ≤ n
  wait : s.wait.length ≤ 500
  got : (s.got.length : Int) ≤ n
  wcell : ∀ p ∈ s.wait, checkF p.1 = 0 ∧ -1 ≤ p.2 ∧ p.2 ≤ 2000
  gcell : ∀ m ∈ s.got, checkF m = 0
theorem checkF_len {m : Msg} (h : checkF m = 0) : m.Cells.length ≤ 400 := by
  unfold checkF at h
  split at h
  · exact absurd h ‹_›
  · unfold cellsFault at h
    split at h
    · cases h
    · omega
theorem outW_length (t : Int) (l : List (Msg × Int)) (i : Nat) : (outW t l i).length = l.length := by simp [outW]; omega
theorem outW_get {t : Int} {l : List (Msg × Int)} {i : Nat} (h : i < l.length) (h' : i < (outW t l i).length) : (outW t l i)[i] = l[i] := by
  simp only[outW]
  rw [List.getElem_append_right (by simp [List.length_take, Nat.min_eq_left (Nat.le_of_lt h)])]
  simp [List.length_take, Nat.min_eq_left (Nat.le_of_lt h)]
theorem outW_step {t : Int} {l : List (Msg × Int)} {i : Nat} (h : i < l.length) : (outW t l i).set i (mark t l[i]) = outW t l (i + 1) := by
  apply List.ext_getElem?
  intro j
  simp only[outW]
  by_cases hj : j = i
  · subst hj
    rw [List.getElem?_set_self (by simp; omega), List.getElem?_append_left (by simp; omega), List.getElem?_map, List.getElem?_take, if_pos (by omega), List.getElem?_eq_getElem h]; rfl
  · rw [List.getElem?_set_ne (fun e => hj e.symm)]
    by_cases h2 : j < i
    · rw [List.getElem?_append_left (by simp; omega), List.getElem?_append_left (by simp; omega), List.getElem?_map, List.getElem?_map, List.getElem?_take, List.getElem?_take, if_pos (by omega), if_pos (by omega)]
    · rw [List.getElem?_append_right (by simp; omega), List.getElem?_append_right (by simp; omega), List.getElem?_drop, List.getElem?_drop]
      simp only[List.length_map,List.length_take,Nat.min_eq_left (Nat.le_of_lt h),Nat.min_eq_left (show i + 1 ≤ l.length from h)]
      congr 1; omega
theorem outW_same {t : Int} {l : List (Msg × Int)} {i : Nat} (h : i < l.length) (hd : due t l[i] = false) : outW t l (i + 1) = outW t l i := by
  rw [← outW_step h]
  have : mark t l[i] = l[i] := by simp [mark, hd]
  rw [this]
  have hl : i < (outW t l i).length := by rw [outW_length]; exact h
  conv => lhs; rw [← outW_get h hl]
  exact List.set_getElem_self hl
theorem outW_zero (t : Int) (l : List (Msg × Int)) : outW t l 0 = l := by simp [outW]
theorem outM_step {t c : Int} {l : List (Msg × Int)} {i : Nat} (h : i < l.length) : outM t c l (i + 1) = outM t c l i ++ if due t l[i] then [{ l[i].1 with Clock := c }] else [] := by
  unfold outM
  rw [List.take_add_one, List.getElem?_eq_getElem h]
  simp only[Option.toList_some,List.filter_append,List.map_append]
  congr 1
  by_cases hd : due t l[i] = true
  · simp [hd]
  · simp [hd]
theorem outW_min (t : Int) (l : List (Msg × Int)) : outW t l (min l.length 8) = outW t l 8 := by
  by_cases h : l.length ≤ 8
  · rw [Nat.min_eq_left h]
    simp [outW, List.take_of_length_le h, List.drop_of_length_le h]
  · rw [Nat.min_eq_right (by omega)]
theorem outM_min (t c : Int) (l : List (Msg × Int)) : outM t c l (min l.length 8) = outM t c l 8 := by
  by_cases h : l.length ≤ 8
  · rw [Nat.min_eq_left h]
    simp [outM, List.take_of_length_le h]
  · rw [Nat.min_eq_right (by omega)]
theorem cutW_sub (q : Int) : ∀ (l : List (Msg × Int)), (cutW q l).length ≤ l.length ∧ ∀ p ∈ cutW q l, p ∈ l
  | [] => ⟨by simp [cutW], fun p hp => hp⟩
  | x :: l => by
    obtain ⟨h1, h2⟩ := cutW_sub q l
    simp only[cutW]
    split
    · exact ⟨by simp; omega, fun p hp => by simp [h2 p hp]⟩
    · exact ⟨Nat.le_refl _, fun p hp => hp⟩
theorem putS_ok {s : Lk} {self other k n : Int} {cs : List Cell} (h : s.ok n) : (putS s self other k cs).ok (n + 1) := by
  obtain ⟨h1, h2, h3, h4, h5, h6, h7, h8⟩ := h
  unfold putS
  split
  · rename_i he
    have hw : s.wait.length ≠ 500 := by
      intro e
      unfold putE at he
      rw [if_pos e] at he
      split at he
      · cases he
      · split at he
        · exact absurd he ‹_›
        · cases he
    have hc : checkF (putM s self other k cs) = 0 := by
      unfold putE at he
      split at he
      · cases he
      · split at he
        · exact absurd he ‹_›
        · exact Decidable.not_not.1 ‹_›
    refine ⟨by simp only; omega, by simp only; omega, h3, by simp only; omega, by simp; omega, by simp only; omega, ?_, h8⟩
    intro p hp
    simp only[List.mem_append,List.mem_singleton] at hp
    rcases hp with hp | rfl
    · exact h7 p hp
    · exact ⟨hc, by simp, by simp⟩
  · exact ⟨h1, by omega, h3, by omega, h5, by omega, h7, h8⟩
theorem inS_ok {s : Lk} {self other n : Int} {m : Msg} (h : s.ok n) : (inS s self other m).ok (n + 1) := by
  obtain ⟨h1, h2, h3, h4, h5, h6, h7, h8⟩ := h
  unfold inS
  split
  · exact ⟨h1, by omega, h3, by omega, h5, by omega, h7, h8⟩
  · rename_i he
    have hc : checkF m = 0 := by
      unfold inE at he
      split at he
      · rename_i hn; exact absurd hn (fun hn => he hn)
      · exact Decidable.not_not.1 ‹_›
    split
    · obtain ⟨c1, c2⟩ := cutW_sub m.Seq s.wait
      exact ⟨h1, by simp only; omega, h3, by simp only; omega, by simp only; omega, by simp only; omega, fun p hp => h7 p (c2 p hp), h8⟩
    · split
      · refine ⟨h1, by simp only; omega, by simp only; omega, by simp only; omega, h5, by simp; omega, h7, ?_⟩
        intro x hx
        simp only[List.mem_append,List.mem_singleton] at hx
        rcases hx with hx | rfl
        · exact h8 x hx
        · exact hc
      · exact ⟨h1, by simp only; omega, h3, by simp only; omega, h5, by simp only; omega, h7, h8⟩
theorem outS_ok {s : Lk} {t n : Int} (h : s.ok n) (ht : -1 ≤ t ∧ t ≤ 2000) : (outS s t).ok (n + 1) := by
  obtain ⟨h1, h2, h3, h4, h5, h6, h7, h8⟩ := h
  refine ⟨h1, by simp only[outS]; omega, h3, by simp only[outS]; omega, by simp only[outS,outW_length]; exact h5, by simp only[outS]; omega, ?_, h8⟩
  intro p hp
  simp only[outS,outW,List.mem_append,List.mem_map] at hp
  rcases hp with ⟨x, hx, rfl⟩ | hp
  · have := h7 x (List.mem_of_mem_take hx)
    unfold mark
    split
    · exact ⟨this.1, ht⟩
    · exact this
  · exact h7 p (List.mem_of_mem_drop hp)
theorem takeS_ok {s : Lk} {n : Int} (h : s.ok n) : ({ s with got := [] } : Lk).ok (n + 1) := by
  obtain ⟨h1, h2, h3, h4, h5, h6, h7, h8⟩ := h
  exact ⟨h1, by simp only; omega, h3, by simp only; omega, h5, by simp; omega, h7, by simp⟩
end Go.Proofs.Ytpdajkbfemcdlaa
namespace Go.Proofs.Ytpdajkbfemcdlaa
open Go.Ge
theorem Copy_ok (o : Own) (m : Msg) (ho : Rdn o m.Cells) (hl : m.Cells.length * 16 ≤ reachBytes) (h : List HObj) :
    ACalls Try.prog F.msg_Copy [msgA o m] h (fun r h' => (∃ o', r = msgA o' m ∧ Rdn o' m.Cells) ∧ h' = h) := by
  have q := ho.1
  refine ACalls.of_aw Try.func49 K.msg_Copy (by simp [Try.f49]) ?_
  generalize hQ : retQ R.msg_Copy _ = Q
  simp (disch:=first|assumption|omega) only[C.msg_Copy,go_sem,↓reduceIte,Nat.reduceEqDiff,Nat.reduceLeDiff,reduceIte,Bool.true_and]
  simp (disch:=first|assumption|omega) only[msgA,msgC,go_sem,↓reduceIte,Nat.reduceAdd,Nat.reduceLT,reduceIte,Int.reduceLT,Int.reduceAdd,Bool.true_and]
  refine callG_ok (CloneCell_ok o m.Cells ho hl _) (by simp (disch:=first|assumption|omega) only[go_sem]) ?_
  rintro _ _ ⟨⟨o', rfl, ho'⟩, hhh⟩
  try rw [hhh]
  clear hhh
  rcases ho' with ⟨rfl, h0⟩ | rfl
  · simp (disch:=first|assumption|omega) only[go_sem,↓reduceIte,Nat.reduceEqDiff,Nat.reduceAdd,Nat.reduceLeDiff,reduceIte,Int.reduceAdd,Bool.true_and]
    subst hQ
    simp (disch:=first|assumption|omega) only[R.msg_Copy,go_sem,↓reduceIte,Nat.reduceEqDiff,Nat.reduceAdd,reduceIte,Int.reduceAdd,Bool.true_and]
    exact ⟨.nil, rfl, .inr rfl, fun _ => h0⟩
  · simp (disch:=first|assumption|omega) only[go_sem,↓reduceIte,Nat.reduceEqDiff,Nat.reduceAdd,Nat.reduceLeDiff,reduceIte,Int.reduceAdd,Bool.true_and]
    subst hQ
    simp (disch:=first|assumption|omega) only[R.msg_Copy,go_sem,↓reduceIte,Nat.reduceEqDiff,Nat.reduceAdd,reduceIte,Int.reduceAdd,Bool.true_and]
    exact ⟨.sh, rfl, .inl rfl, fun h => by cases h⟩
end Go.Proofs.Ytpdajkbfemcdlaa
namespace Go.Proofs.Ytpdajkbfemcdlaa
open Go.Ge
def C.gantmake_Below : ACode :=
  .seq (.region [.o 4 (.move false (.c (.int .i64 0)))]) (
  .seq (.region [.m 5 0,.m 6 1,.o 7 (.bin .rem (.t 5) (.t 6)),.m 0 7]) (
  .seq (.seq (.region [.m 8 0,.o 9 (.bin .lss (.t 8) (.c (.int .i64 0)))]) (
  .cond (.t 9) (.region [.m 10 0,.m 11 1,.o 12 (.bin .add (.t 10) (.t 11)),.m 0 12]) (.skip))) (
  .seq (.region [.m 13 0,.m 4 13]) (
  .ret))))
def R.gantmake_Below : List ARes := [.t 4]
set_option maxRecDepth 100000 in
theorem K.gantmake_Below : ckFun Try.prog Try.f42 C.gantmake_Below R.gantmake_Below = true := by kernel_rfl
end Go.Proofs.Ytpdajkbfemcdlaa
namespace Go.Proofs.Ytpdajkbfemcdlaa
open Go.Ge
def after (a n : Int) : Int := (a + n) % 4294967296
theorem Below_ok (x n : Int) (hx : inI64 x) (hn : 0 < n) (hn2 : n < 9223372036854775808) (h : List HObj) : ACalls Try.prog F.gantmake_Below [.int .i64 x, .int .i64 n] h (fun r h' => r = .int .i64 (x % n) ∧ h' = h) := by
  unfold inI64 at hx
  refine ACalls.of_aw Try.func42 K.gantmake_Below (by simp [Try.f42]) ?_
  generalize hQ : retQ R.gantmake_Below _ = Q
  simp (disch:=first|assumption|omega) only[C.gantmake_Below,go_sem,↓reduceIte,Nat.reduceEqDiff,reduceCtorEq,reduceIte]
  refine ⟨by omega, ?_⟩
  have e := Int.tmod_eq_emod (a := x) (b := n)
  have h1 := Int.emod_nonneg x (show n ≠ 0 by omega)
  have h2 := Int.emod_lt_of_pos x hn
  by_cases h0 : 0 ≤ x ∨ n ∣ x
  · rw [if_pos h0] at e
    refine condG_if (fun hlt => by omega) fun hge => ?_
    simp (disch:=first|assumption|omega) only[go_sem,↓reduceIte,reduceCtorEq,reduceIte]
    subst hQ
    simp (disch:=first|assumption|omega) only[R.gantmake_Below,go_sem,↓reduceIte,reduceIte]
    rw [e]; simp
  · rw [if_neg h0] at e
    have : (n.natAbs : Int) = n := by omega
    refine condG_if (fun hlt => ?_) fun hge => ?_
    · simp (disch:=first|assumption|omega) only[go_sem,↓reduceIte,Nat.reduceEqDiff,reduceCtorEq,reduceIte]
      subst hQ
      simp (disch:=first|assumption|omega) only[R.gantmake_Below,go_sem,↓reduceIte,reduceIte]
      rw [e]; congr 1; omega
    · exfalso
      have h3 : x % n ≠ 0 := fun h => h0 (.inr (Int.dvd_of_emod_eq_zero h))
      omega
end Go.Proofs.Ytpdajkbfemcdlaa
namespace Go.Proofs.Ytpdajkbfemcdlaa
open Go.Ge
def C.link_New : ACode :=
  .seq (.region [.o 4 (.move false (.c .nilptr)),.o 5 (.move false (.c (.int .i64 0)))]) (
  .seq (.seq (.region [.m 6 0,.m 7 1,.o 8 (.mn (.t 6) [(.t 7)]),.o 9 (.bin .lss (.t 8) (.c (.int .i64 0))),.m 10 9,.g 11 (.move false (.t 0)) 10 false,.g 12 (.move false (.t 1)) 10 false,.g 13 (.mx (.t 11) [(.t 12)]) 10 false,.g 14 (.bin .gtr (.t 13) (.c (.int .i64 4))) 10 false,.o 15 (.pick (.t 10) (.c (.bool true)) (.t 14)),.m 16 15,.g 17 (.move false (.t 0)) 16 false,.g 18 (.move false (.t 1)) 16 false,.g 19 (.bin .eql (.t 17) (.t 18)) 16 false,.o 20 (.pick (.t 16) (.c (.bool true)) (.t 19))]) (
  .cond (.t 20) (.seq (.region [.o 4 (.move false (.c .nilptr)),.o 5 (.move false (.c (.int .i64 16)))]) (
  .ret)) (.skip))) (
  .seq (.region [.m 21 0,.m 22 1,.o 23 (.build [(.int .i64 0), (.int .i64 0), (.int .i64 0), (.lst .nil []), (.int .i64 0), (.lst .nil []), (.bool false)] [(0, 1, (.t 21)), (1, 1, (.t 22))]),.o 24 (.bx true (.t 23)),.m 4 24,.o 5 (.move false (.c (.int .i64 0)))]) (
  .prom 24 (.ret))))
def R.link_New : List ARes := [.t 4, .t 5]
set_option maxRecDepth 100000 in
theorem K.link_New : ckFun Try.prog Try.f81 C.link_New R.link_New = true := by kernel_rfl
def C.link_End_Waits : ACode :=
  .seq (.region [.o 2 (.move false (.c (.int .i64 0)))]) (
  .seq (.region [.m 3 0,.o 4 (.nilck (.t 3)),.o 5 (.faddr 3 (.t 4)),.o 6 (.load 2 false 1 (.t 5)),.o 7 (.len (.t 6)),.m 2 7]) (
  .ret))
def R.link_End_Waits : List ARes := [.t 2]
set_option maxRecDepth 100000 in
theorem K.link_End_Waits : ckFun Try.prog Try.f83 C.link_End_Waits R.link_End_Waits = true := by kernel_rfl
def C.link_End_Take : ACode :=
  .seq (.region [.o 2 (.move false (.c (.lst .nil [])))]) (
  .seq (.region [.m 4 0,.o 5 (.nilck (.t 4)),.o 6 (.faddr 5 (.t 5)),.o 7 (.loadT (.t 6)),.o 3 (.move true (.t 7))]) (
  .seq (.region [.m 8 0,.o 9 (.nilck (.t 8)),.o 10 (.faddr 5 (.t 9)),⟨none, .store 1 (.t 10) (.c (.lst .nil [])), none⟩]) (
  .seq (.region [.o 11 (.move true (.t 3)),.o 2 (.move true (.t 11))]) (
  .ret))))
def R.link_End_Take : List ARes := [.t 2]
set_option maxRecDepth 100000 in
theorem K.link_End_Take : ckFun Try.prog Try.f164 C.link_End_Take R.link_End_Take = true := by kernel_rfl
def C.link_End_In : ACode :=
  .seq (.region [.o 3 (.bx true (.t 1)),.o 4 (.move false (.c (.int .i64 0)))]) (
  .seq (.seq (.region [.o 6 (.load 2 true 6 (.t 3)),.o 7 (.call true F.msg_Check [(.t 6)]),.m 5 7]) (
  .seq (.region [.m 8 5,.o 9 (.bin .neq (.t 8) (.c (.int .i64 0)))]) (
  .cond (.t 9) (.seq (.region [.m 10 5,.m 4 10]) (
  .ret)) (.skip)))) (
  .seq (.seq (.drawn [0, 1, 2, 3, 4, 5, 6, 7, 8, 9, 10, 11, 12, 13, 14, 15] [0, 1, 0, 4, 12, 28, 63, 127, 255, 511, 255, 1279, 3327, 7423, 16383, 32767] [.o 11 (.faddr 1 (.t 3)),.o 12 (.load 1 false 1 (.t 11)),.m 13 0,.o 14 (.nilck (.t 13)),.o 15 (.faddr 1 (.t 14)),.o 16 (.load 2 false 1 (.t 15)),.o 17 (.bin .neq (.t 12) (.t 16)),.m 18 17,.g 19 (.faddr 2 (.t 3)) 18 false,.g 20 (.load 1 false 1 (.t 19)) 18 false,.g 21 (.move false (.t 0)) 18 false,.g 22 (.nilck (.t 21)) 18 false,.g 23 (.faddr 0 (.t 22)) 18 false,.g 24 (.load 2 false 1 (.t 23)) 18 false,.g 25 (.bin .neq (.t 20) (.t 24)) 18 false,.o 26 (.pick (.t 18) (.c (.bool true)) (.t 25))]) (
  .cond (.t 26) (.seq (.region [.o 4 (.move false (.c (.int .i64 16)))]) (
  .ret)) (.skip))) (
  .seq (.seq (.region [.o 27 (.faddr 0 (.t 3)),.o 28 (.load 2 false 1 (.t 27)),.o 29 (.bin .eql (.t 28) (.c (.int .i64 3)))]) (
  .cond (.t 29) (.seq (.seq (.drawn [0, 1, 2, 3, 4, 5, 6] [0, 1, 0, 4, 12, 28, 63] [.o 30 (.faddr 3 (.t 3)),.o 31 (.load 1 false 1 (.t 30)),.m 32 0,.o 33 (.nilck (.t 32)),.o 34 (.faddr 2 (.t 33)),.o 35 (.load 2 false 1 (.t 34)),.o 36 (.bin .gtr (.t 31) (.t 35))]) (
  .cond (.t 36) (.seq (.region [.o 4 (.move false (.c (.int .i64 9)))]) (
  .ret)) (.skip))) (
  .seq (.block 0 (.loop (.seq (.seq (.drawn [0, 1, 2, 3, 4, 5, 6, 7, 8, 9, 10, 11, 12, 13, 14, 15, 16, 17, 18] [0, 1, 3, 7, 15, 31, 63, 127, 255, 511, 1023, 2047, 4095, 8191, 16383, 127, 32895, 131071, 262143] [.m 37 0,.o 38 (.nilck (.t 37)),.o 39 (.faddr 3 (.t 38)),.o 40 (.load 2 false 1 (.t 39)),.o 41 (.len (.t 40)),.o 42 (.bin .gtr (.t 41) (.c (.int .i64 0))),.m 43 42,.g 44 (.move false (.t 0)) 43 true,.g 45 (.nilck (.t 44)) 43 true,.g 46 (.faddr 3 (.t 45)) 43 true,.g 47 (.load 2 false 1 (.t 46)) 43 true,.g 48 (.iaddr 7 (.t 47) (.c (.int .i64 0))) 43 true,.g 49 (.faddr 0 (.t 48)) 43 true,.g 50 (.faddr 3 (.t 49)) 43 true,.g 51 (.load 2 false 1 (.t 50)) 43 true,.g 52 (.faddr 3 (.t 3)) 43 true,.g 53 (.load 1 false 1 (.t 52)) 43 true,.g 54 (.bin .lss (.t 51) (.t 53)) 43 true,.o 55 (.pick (.t 43) (.t 54) (.c (.bool false)))]) (
  .cond (.t 55) (.skip) (.exit 0))) (
  .block 1 (.region [.m 56 0,.m 57 0,.o 58 (.nilck (.t 57)),.o 59 (.faddr 3 (.t 58)),.o 60 (.load 2 false 1 (.t 59)),.o 61 (.slice 7 (.t 60) (some (.c (.int .i64 1))) none none),.o 62 (.nilck (.t 56)),.o 63 (.faddr 3 (.t 62)),⟨none, .store 1 (.t 63) (.t 61), none⟩]))))) (
  .seq (.region [.o 4 (.move false (.c (.int .i64 0)))]) (
  .ret)))) (.skip))) (
  .seq (.region [.m 64 0,.o 65 (.nilck (.t 64)),.o 66 (.faddr 6 (.t 65)),⟨none, .store 1 (.t 66) (.c (.bool true)), none⟩]) (
  .seq (.seq (.drawn [0, 1, 2, 3, 4, 5, 6] [0, 1, 0, 4, 12, 28, 63] [.o 67 (.faddr 3 (.t 3)),.o 68 (.load 1 false 1 (.t 67)),.m 69 0,.o 70 (.nilck (.t 69)),.o 71 (.faddr 4 (.t 70)),.o 72 (.load 2 false 1 (.t 71)),.o 73 (.bin .eql (.t 68) (.t 72))]) (
  .cond (.t 73) (.seq (.region [.m 74 0,.o 75 (.nilck (.t 74)),.o 76 (.faddr 4 (.t 75)),.o 77 (.load 2 false 1 (.t 76)),.o 78 (.bin .add (.t 77) (.c (.int .i64 1))),.o 79 (.nilck (.t 74)),.o 80 (.faddr 4 (.t 79)),⟨none, .store 1 (.t 80) (.t 78), none⟩]) (
  .drawn [0, 1, 2, 3, 5, 4, 6, 7, 8, 9, 10, 11] [0, 0, 2, 6, 14, 0, 32, 96, 254, 511, 1023, 2047] [.m 81 0,.m 82 0,.o 83 (.nilck (.t 82)),.o 84 (.faddr 5 (.t 83)),.o 86 (.load 1 true 6 (.t 3)),.o 85 (.loadT (.t 84)),.o 87 (.hop (.callp F.msg_Copy [(.t 86)])),.o 88 (.buildS false 6 [(.t 87)]),.o 89 (.append 6 64 (.t 85) (.t 88)),.o 90 (.nilck (.t 81)),.o 91 (.faddr 5 (.t 90)),⟨none, .store 1 (.t 91) (.t 89), none⟩])) (.skip))) (
  .seq (.region [.o 4 (.move false (.c (.int .i64 0)))]) (
  .ret)))))))
def R.link_End_In : List ARes := [.t 4]
set_option maxRecDepth 100000 in
theorem K.link_End_In : ckFun Try.prog Try.f168 C.link_End_In R.link_End_In = true := by kernel_rfl
def C.link_End_Out : ACode :=
  .seq (.region [.o 6 (.move false (.c (.lst .nil [])))]) (
  .seq (.region [.m 11 1,.o 12 (.mn (.t 11) [(.c (.int .i64 2000))]),.o 13 (.mx (.c (.int .i64 0)) [(.t 12)]),.m 1 13]) (
  .seq (.region [.o 7 (.move false (.c (.lst .nil [])))]) (
  .seq (.seq (.region [.m 14 0,.o 15 (.nilck (.t 14)),.o 16 (.faddr 3 (.t 15)),.o 17 (.load 2 false 1 (.t 16)),.o 18 (.len (.t 17)),.o 19 (.mn (.t 18) [(.c (.int .i64 8))]),.o 20 (.move false (.c (.int .i64 0)))]) (
  .block 0 (.loop (.seq (.region [.o 21 (.bin .lss (.t 20) (.t 19))]) (
  .seq (.cond (.t 21) (.skip) (.exit 0)) (
  .seq (.block 1 (.seq (.region [.m 22 20,.m 8 22]) (
  .seq (.region [.m 23 0,.o 24 (.nilck (.t 23)),.o 25 (.faddr 3 (.t 24)),.o 26 (.load 2 false 1 (.t 25)),.m 27 8,.o 28 (.iaddr 7 (.t 26) (.t 27)),.m 9 28]) (
  .seq (.region [.m 29 9,.o 30 (.nilck (.t 29)),.o 31 (.faddr 6 (.t 30)),.o 32 (.load 2 false 1 (.t 31)),.o 33 (.bin .lss (.t 32) (.c (.int .i64 0))),.m 34 33,.g 35 (.move false (.t 1)) 34 false,.g 36 (.move false (.t 9)) 34 false,.g 37 (.nilck (.t 36)) 34 false,.g 38 (.faddr 6 (.t 37)) 34 false,.g 39 (.load 2 false 1 (.t 38)) 34 false,.g 40 (.bin .sub (.t 35) (.t 39)) 34 false,.g 41 (.bin .geq (.t 40) (.c (.int .i64 4))) 34 false,.o 42 (.pick (.t 34) (.c (.bool true)) (.t 41))]) (
  .cond (.t 42) (.seq (.region [.m 43 9,.m 44 1,.o 45 (.nilck (.t 43)),.o 46 (.faddr 6 (.t 45)),⟨none, .store 1 (.t 46) (.t 44), none⟩]) (
  .seq (.region [.m 47 9,.o 48 (.nilck (.t 47)),.o 49 (.faddr 0 (.t 48)),.o 50 (.load 2 true 6 (.t 49)),.o 51 (.call true F.msg_Copy [(.t 50)]),.o 10 (.alloc false [(.int .i64 0), (.int .i64 0), (.int .i64 0), (.int .i64 0), (.int .u32 0), (.lst .nil [])]),⟨none, .store 6 (.t 10) (.t 51), none⟩]) (
  .seq (.region [.m 52 2,.o 53 (.faddr 4 (.t 10)),⟨none, .store 1 (.t 53) (.t 52), none⟩]) (
  .region [.o 54 (.move true (.t 7)),.o 55 (.load 2 true 6 (.t 10)),.o 56 (.buildS false 6 [(.t 55)]),.o 57 (.append 6 64 (.t 54) (.t 56)),.o 7 (.move true (.t 57))])))) (.skip)))))) (
  .region [.o 58 (.bin .add (.t 20) (.c (.int .i64 1))),.m 20 58]))))))) (
  .seq (.seq (.region [.m 59 0,.o 60 (.nilck (.t 59)),.o 61 (.faddr 6 (.t 60)),.o 62 (.load 2 false 1 (.t 61))]) (
  .cond (.t 62) (.seq (.region [.m 63 0,.o 64 (.nilck (.t 63)),.o 65 (.faddr 6 (.t 64)),⟨none, .store 1 (.t 65) (.c (.bool false)), none⟩]) (
  .drawn [1, 2, 3, 4, 5, 6, 7, 8, 9, 10, 11, 12, 13, 14, 15, 0, 16, 17] [0, 0, 2, 6, 14, 0, 32, 96, 224, 0, 512, 1536, 3584, 0, 16382, 32766, 65535, 131071] [.m 67 0,.o 68 (.nilck (.t 67)),.o 69 (.faddr 0 (.t 68)),.o 70 (.load 2 false 1 (.t 69)),.m 71 0,.o 72 (.nilck (.t 71)),.o 73 (.faddr 1 (.t 72)),.o 74 (.load 2 false 1 (.t 73)),.m 75 0,.o 76 (.nilck (.t 75)),.o 77 (.faddr 4 (.t 76)),.o 78 (.load 2 false 1 (.t 77)),.m 79 2,.o 80 (.build [(.int .i64 0), (.int .i64 0), (.int .i64 0), (.int .i64 0), (.int .u32 0), (.lst .nil [])] [(0, 1, (.c (.int .i64 3))), (1, 1, (.t 70)), (2, 1, (.t 74)), (3, 1, (.t 78)), (4, 1, (.t 79))]),.o 81 (.buildS false 6 [(.t 80)]),.o 66 (.move true (.t 7)),.o 82 (.append 6 64 (.t 66) (.t 81)),.o 7 (.move true (.t 82))])) (.skip))) (
  .seq (.region [.o 83 (.move true (.t 7)),.o 6 (.move true (.t 83))]) (
  .ret))))))
def R.link_End_Out : List ARes := [.t 6]
set_option maxRecDepth 100000 in
theorem K.link_End_Out : ckFun Try.prog Try.f169 C.link_End_Out R.link_End_Out = true := by kernel_rfl
def C.link_End_Put : ACode :=
  .seq (.region [.o 6 (.move false (.c (.int .i64 0)))]) (
  .seq (.drawn [0, 1, 2, 3, 4, 5, 6, 7, 8, 9, 10, 11, 12, 13, 14, 15, 16, 17] [0, 0, 2, 6, 14, 0, 32, 96, 224, 0, 512, 1536, 3584, 0, 8192, 32767, 0, 131071] [.m 9 1,.m 10 0,.o 11 (.nilck (.t 10)),.o 12 (.faddr 0 (.t 11)),.o 13 (.load 2 false 1 (.t 12)),.m 14 0,.o 15 (.nilck (.t 14)),.o 16 (.faddr 1 (.t 15)),.o 17 (.load 2 false 1 (.t 16)),.m 18 0,.o 19 (.nilck (.t 18)),.o 20 (.faddr 2 (.t 19)),.o 21 (.load 2 false 1 (.t 20)),.m 22 2,.o 23 (.hop (.callp F.slices_Clone_Cell [(.t 22)])),.o 24 (.build [(.int .i64 0), (.int .i64 0), (.int .i64 0), (.int .i64 0), (.int .u32 0), (.lst .nil [])] [(0, 1, (.t 9)), (1, 1, (.t 13)), (2, 1, (.t 17)), (3, 1, (.t 21)), (5, 1, (.t 23))]),.o 7 (.alloc true [(.int .i64 0), (.int .i64 0), (.int .i64 0), (.int .i64 0), (.int .u32 0), (.lst .nil [])]),⟨none, .store 6 (.t 7) (.t 24), none⟩]) (
  .seq (.seq (.region [.m 25 1,.o 26 (.bin .eql (.t 25) (.c (.int .i64 3)))]) (
  .cond (.t 26) (.seq (.region [.o 6 (.move false (.c (.int .i64 1)))]) (
  .ret)) (.skip))) (
  .seq (.seq (.region [.o 27 (.load 2 true 6 (.t 7)),.o 28 (.call true F.msg_Check [(.t 27)]),.m 8 28]) (
  .seq (.region [.m 29 8,.o 30 (.bin .neq (.t 29) (.c (.int .i64 0)))]) (
  .cond (.t 30) (.seq (.region [.m 31 8,.m 6 31]) (
  .ret)) (.skip)))) (
  .seq (.seq (.region [.m 32 0,.o 33 (.nilck (.t 32)),.o 34 (.faddr 3 (.t 33)),.o 35 (.load 2 false 1 (.t 34)),.o 36 (.len (.t 35)),.o 37 (.bin .eql (.t 36) (.c (.int .i64 500)))]) (
  .cond (.t 37) (.seq (.region [.o 6 (.move false (.c (.int .i64 6)))]) (
  .ret)) (.skip))) (
  .seq (.region [.m 38 0,.o 39 (.nilck (.t 38)),.o 40 (.faddr 2 (.t 39)),.o 41 (.load 2 false 1 (.t 40)),.o 42 (.bin .add (.t 41) (.c (.int .i64 1))),.o 43 (.nilck (.t 38)),.o 44 (.faddr 2 (.t 43)),⟨none, .store 1 (.t 44) (.t 42), none⟩]) (
  .seq (.drawn [0, 1, 2, 3, 4, 5, 6, 7, 8, 9, 10, 11] [0, 0, 2, 6, 14, 0, 32, 96, 254, 511, 1023, 2047] [.m 45 0,.m 46 0,.o 47 (.nilck (.t 46)),.o 48 (.faddr 3 (.t 47)),.o 49 (.load 2 false 1 (.t 48)),.o 50 (.load 1 true 6 (.t 7)),.o 51 (.build [(.int .i64 0), (.int .i64 0), (.int .i64 0), (.int .i64 0), (.int .u32 0), (.lst .nil []), (.int .i64 0)] [(0, 6, (.t 50)), (6, 1, (.c (.int .i64 (-1))))]),.o 52 (.buildS false 7 [(.t 51)]),.o 53 (.hop (.appendR 7 72 (.t 49) (.t 52))),.o 54 (.nilck (.t 45)),.o 55 (.faddr 3 (.t 54)),⟨none, .store 1 (.t 55) (.t 53), none⟩]) (
  .seq (.region [.o 6 (.move false (.c (.int .i64 0)))]) (
  .ret))))))))
def R.link_End_Put : List ARes := [.t 6]
set_option maxRecDepth 100000 in
theorem K.link_End_Put : ckFun Try.prog Try.f145 C.link_End_Put R.link_End_Put = true := by kernel_rfl
end Go.Proofs.Ytpdajkbfemcdlaa
namespace Go.Proofs.Ytpdajkbfemcdlaa
open Go.Ge
def C.slices_swapRangeCmpFunc_sent : ACode :=
  .seq (.region [.o 10 (.move false (.c (.int .i64 0)))]) (
  .block 0 (.loop (.seq (.seq (.region [.m 11 10,.m 12 3,.o 13 (.bin .lss (.t 11) (.t 12))]) (
  .cond (.t 13) (.skip) (.exit 0))) (
  .seq (.block 1 (.drawn [0, 1, 2, 3, 4, 5, 6, 7, 8, 9, 10, 11, 12, 13, 14, 15, 16, 17, 18, 19, 20, 21, 22, 23] [0, 0, 0, 6, 0, 0, 0, 96, 0, 0, 0, 1536, 3840, 7936, 0, 0, 0, 98304, 245760, 507904, 1048335, 2096911, 4194303, 8388607] [.m 16 0,.m 17 1,.m 18 10,.o 19 (.bin .add (.t 17) (.t 18)),.m 20 0,.m 21 2,.m 22 10,.o 23 (.bin .add (.t 21) (.t 22)),.m 24 0,.m 25 2,.m 26 10,.o 27 (.bin .add (.t 25) (.t 26)),.o 28 (.iaddr 7 (.t 24) (.t 27)),.o 29 (.load 2 true 7 (.t 28)),.m 30 0,.m 31 1,.m 32 10,.o 33 (.bin .add (.t 31) (.t 32)),.o 34 (.iaddr 7 (.t 30) (.t 33)),.o 35 (.load 2 true 7 (.t 34)),.o 36 (.iaddr 7 (.t 16) (.t 19)),⟨none, .store 7 (.t 36) (.t 29), none⟩,.o 37 (.iaddr 7 (.t 20) (.t 23)),⟨none, .store 7 (.t 37) (.t 35), none⟩])) (
  .region [.m 14 10,.o 15 (.bin .add (.t 14) (.c (.int .i64 1))),.m 10 15])))))
def R.slices_swapRangeCmpFunc_sent : List ARes := []
set_option maxRecDepth 100000 in
theorem K.slices_swapRangeCmpFunc_sent : ckFun Try.prog Try.f239 C.slices_swapRangeCmpFunc_sent R.slices_swapRangeCmpFunc_sent = true := by kernel_rfl
def C.slices_rotateCmpFunc_sent : ACode :=
  .seq (.region [.m 12 2,.m 13 1,.o 14 (.bin .sub (.t 12) (.t 13)),.m 10 14]) (
  .seq (.region [.m 15 3,.m 16 2,.o 17 (.bin .sub (.t 15) (.t 16)),.m 11 17]) (
  .seq (.block 0 (.loop (.seq (.seq (.region [.m 18 10,.m 19 11,.o 20 (.bin .neq (.t 18) (.t 19))]) (
  .cond (.t 20) (.skip) (.exit 0))) (
  .block 1 (.seq (.region [.m 21 10,.m 22 11,.o 23 (.bin .gtr (.t 21) (.t 22))]) (
  .cond (.t 23) (.seq (.region [.m 24 0,.m 25 2,.m 26 10,.o 27 (.bin .sub (.t 25) (.t 26)),.m 28 2,.m 29 11,.m 30 4,.o 31 (.call true F.slices_swapRangeCmpFunc_sent [(.t 24), (.t 27), (.t 28), (.t 29), (.t 30)])]) (
  .region [.m 32 10,.m 33 11,.o 34 (.bin .sub (.t 32) (.t 33)),.m 10 34])) (.seq (.region [.m 35 0,.m 36 2,.m 37 10,.o 38 (.bin .sub (.t 36) (.t 37)),.m 39 2,.m 40 11,.o 41 (.bin .add (.t 39) (.t 40)),.m 42 10,.o 43 (.bin .sub (.t 41) (.t 42)),.m 44 10,.m 45 4,.o 46 (.call true F.slices_swapRangeCmpFunc_sent [(.t 35), (.t 38), (.t 43), (.t 44), (.t 45)])]) (
  .region [.m 47 11,.m 48 10,.o 49 (.bin .sub (.t 47) (.t 48)),.m 11 49])))))))) (
  .region [.m 50 0,.m 51 2,.m 52 10,.o 53 (.bin .sub (.t 51) (.t 52)),.m 54 2,.m 55 10,.m 56 4,.o 57 (.call true F.slices_swapRangeCmpFunc_sent [(.t 50), (.t 53), (.t 54), (.t 55), (.t 56)])])))
def R.slices_rotateCmpFunc_sent : List ARes := []
set_option maxRecDepth 100000 in
theorem K.slices_rotateCmpFunc_sent : ckFun Try.prog Try.f231 C.slices_rotateCmpFunc_sent R.slices_rotateCmpFunc_sent = true := by kernel_rfl
def C.slices_symMergeCmpFunc_sent : ACode :=
  .seq (.seq (.region [.m 25 2,.m 26 1,.o 27 (.bin .sub (.t 25) (.t 26)),.o 28 (.bin .eql (.t 27) (.c (.int .i64 1)))]) (
  .cond (.t 28) (.seq (.region [.m 29 2,.m 10 29]) (
  .seq (.region [.m 30 3,.m 11 30]) (
  .seq (.block 0 (.loop (.seq (.seq (.region [.m 31 10,.m 32 11,.o 33 (.bin .lss (.t 31) (.t 32))]) (
  .cond (.t 33) (.skip) (.exit 0))) (
  .block 1 (.seq (.region [.m 34 10,.m 35 11,.o 36 (.bin .add (.t 34) (.t 35)),.o 37 (.conv .u64 (.t 36)),.o 38 (.bin .shr (.t 37) (.c (.int .u64 1))),.o 39 (.conv .i64 (.t 38)),.m 12 39]) (
  .seq (.drawn [0, 1, 2, 3, 4, 5, 6, 7, 8, 9, 10] [0, 0, 0, 6, 14, 0, 0, 96, 224, 511, 1023] [.m 40 4,.m 41 0,.m 42 12,.o 43 (.iaddr 7 (.t 41) (.t 42)),.o 44 (.load 2 true 7 (.t 43)),.m 45 0,.m 46 1,.o 47 (.iaddr 7 (.t 45) (.t 46)),.o 48 (.load 2 true 7 (.t 47)),.o 49 (.hop (.callvq (.t 40) [(.t 44), (.t 48)])),.o 50 (.bin .lss (.t 49) (.c (.int .i64 0)))]) (
  .cond (.t 50) (.region [.m 51 12,.o 52 (.bin .add (.t 51) (.c (.int .i64 1))),.m 10 52]) (.region [.m 53 12,.m 11 53])))))))) (
  .seq (.seq (.region [.m 54 1,.m 13 54]) (
  .block 2 (.loop (.seq (.seq (.region [.m 55 13,.m 56 10,.o 57 (.bin .sub (.t 56) (.c (.int .i64 1))),.o 58 (.bin .lss (.t 55) (.t 57))]) (
  .cond (.t 58) (.skip) (.exit 2))) (
  .seq (.block 3 (.drawn [0, 1, 2, 3, 4, 5, 6, 7, 8, 9, 10, 11, 12, 13, 14, 15, 16, 17] [0, 0, 0, 0, 8, 0, 0, 64, 224, 480, 0, 0, 3072, 7168, 16355, 32739, 65535, 131071] [.m 61 0,.m 62 13,.m 63 0,.m 64 13,.o 65 (.bin .add (.t 64) (.c (.int .i64 1))),.m 66 0,.m 67 13,.o 68 (.bin .add (.t 67) (.c (.int .i64 1))),.o 69 (.iaddr 7 (.t 66) (.t 68)),.o 70 (.load 2 true 7 (.t 69)),.m 71 0,.m 72 13,.o 73 (.iaddr 7 (.t 71) (.t 72)),.o 74 (.load 2 true 7 (.t 73)),.o 75 (.iaddr 7 (.t 61) (.t 62)),⟨none, .store 7 (.t 75) (.t 70), none⟩,.o 76 (.iaddr 7 (.t 63) (.t 65)),⟨none, .store 7 (.t 76) (.t 74), none⟩])) (
  .region [.m 59 13,.o 60 (.bin .add (.t 59) (.c (.int .i64 1))),.m 13 60])))))) (
  .ret))))) (.skip))) (
  .seq (.seq (.region [.m 77 3,.m 78 2,.o 79 (.bin .sub (.t 77) (.t 78)),.o 80 (.bin .eql (.t 79) (.c (.int .i64 1)))]) (
  .cond (.t 80) (.seq (.region [.m 81 1,.m 14 81]) (
  .seq (.region [.m 82 2,.m 15 82]) (
  .seq (.block 4 (.loop (.seq (.seq (.region [.m 83 14,.m 84 15,.o 85 (.bin .lss (.t 83) (.t 84))]) (
  .cond (.t 85) (.skip) (.exit 4))) (
  .block 5 (.seq (.region [.m 86 14,.m 87 15,.o 88 (.bin .add (.t 86) (.t 87)),.o 89 (.conv .u64 (.t 88)),.o 90 (.bin .shr (.t 89) (.c (.int .u64 1))),.o 91 (.conv .i64 (.t 90)),.m 16 91]) (
  .seq (.drawn [0, 1, 2, 3, 4, 5, 6, 7, 8, 9, 10, 11] [0, 0, 0, 6, 14, 0, 0, 96, 224, 511, 1023, 2047] [.m 92 4,.m 93 0,.m 94 2,.o 95 (.iaddr 7 (.t 93) (.t 94)),.o 96 (.load 2 true 7 (.t 95)),.m 97 0,.m 98 16,.o 99 (.iaddr 7 (.t 97) (.t 98)),.o 100 (.load 2 true 7 (.t 99)),.o 101 (.hop (.callvq (.t 92) [(.t 96), (.t 100)])),.o 102 (.bin .lss (.t 101) (.c (.int .i64 0))),.o 103 (.un .not (.t 102))]) (
  .cond (.t 103) (.region [.m 104 16,.o 105 (.bin .add (.t 104) (.c (.int .i64 1))),.m 14 105]) (.region [.m 106 16,.m 15 106])))))))) (
  .seq (.seq (.region [.m 107 2,.m 17 107]) (
  .block 6 (.loop (.seq (.seq (.region [.m 108 17,.m 109 14,.o 110 (.bin .gtr (.t 108) (.t 109))]) (
  .cond (.t 110) (.skip) (.exit 6))) (
  .seq (.block 7 (.drawn [0, 1, 2, 3, 4, 5, 6, 7, 8, 9, 10, 11, 12, 13, 14, 15, 16, 17] [0, 0, 0, 0, 8, 0, 0, 64, 224, 480, 0, 0, 3072, 7168, 16355, 32739, 65535, 131071] [.m 113 0,.m 114 17,.m 115 0,.m 116 17,.o 117 (.bin .sub (.t 116) (.c (.int .i64 1))),.m 118 0,.m 119 17,.o 120 (.bin .sub (.t 119) (.c (.int .i64 1))),.o 121 (.iaddr 7 (.t 118) (.t 120)),.o 122 (.load 2 true 7 (.t 121)),.m 123 0,.m 124 17,.o 125 (.iaddr 7 (.t 123) (.t 124)),.o 126 (.load 2 true 7 (.t 125)),.o 127 (.iaddr 7 (.t 113) (.t 114)),⟨none, .store 7 (.t 127) (.t 122), none⟩,.o 128 (.iaddr 7 (.t 115) (.t 117)),⟨none, .store 7 (.t 128) (.t 126), none⟩])) (
  .region [.m 111 17,.o 112 (.bin .sub (.t 111) (.c (.int .i64 1))),.m 17 112])))))) (
  .ret))))) (.skip))) (
  .seq (.region [.m 129 1,.m 130 3,.o 131 (.bin .add (.t 129) (.t 130)),.o 132 (.conv .u64 (.t 131)),.o 133 (.bin .shr (.t 132) (.c (.int .u64 1))),.o 134 (.conv .i64 (.t 133)),.m 18 134]) (
  .seq (.region [.m 135 18,.m 136 2,.o 137 (.bin .add (.t 135) (.t 136)),.m 19 137]) (
  .seq (.region [.o 20 (.move false (.c (.int .i64 0))),.o 21 (.move false (.c (.int .i64 0)))]) (
  .seq (.seq (.region [.m 138 2,.m 139 18,.o 140 (.bin .gtr (.t 138) (.t 139))]) (
  .cond (.t 140) (.seq (.region [.m 141 19,.m 142 3,.o 143 (.bin .sub (.t 141) (.t 142)),.m 20 143]) (
  .region [.m 144 18,.m 21 144])) (.seq (.region [.m 145 1,.m 20 145]) (
  .region [.m 146 2,.m 21 146])))) (
  .seq (.region [.m 147 19,.o 148 (.bin .sub (.t 147) (.c (.int .i64 1))),.m 22 148]) (
  .seq (.block 8 (.loop (.seq (.seq (.region [.m 149 20,.m 150 21,.o 151 (.bin .lss (.t 149) (.t 150))]) (
  .cond (.t 151) (.skip) (.exit 8))) (
  .block 9 (.seq (.region [.m 152 20,.m 153 21,.o 154 (.bin .add (.t 152) (.t 153)),.o 155 (.conv .u64 (.t 154)),.o 156 (.bin .shr (.t 155) (.c (.int .u64 1))),.o 157 (.conv .i64 (.t 156)),.m 23 157]) (
  .seq (.drawn [0, 1, 2, 3, 4, 5, 6, 7, 8, 9, 10, 11, 12, 13] [0, 0, 0, 0, 12, 30, 62, 0, 0, 384, 896, 2047, 4095, 8191] [.m 158 4,.m 159 0,.m 160 22,.m 161 23,.o 162 (.bin .sub (.t 160) (.t 161)),.o 163 (.iaddr 7 (.t 159) (.t 162)),.o 164 (.load 2 true 7 (.t 163)),.m 165 0,.m 166 23,.o 167 (.iaddr 7 (.t 165) (.t 166)),.o 168 (.load 2 true 7 (.t 167)),.o 169 (.hop (.callvq (.t 158) [(.t 164), (.t 168)])),.o 170 (.bin .lss (.t 169) (.c (.int .i64 0))),.o 171 (.un .not (.t 170))]) (
  .cond (.t 171) (.region [.m 172 23,.o 173 (.bin .add (.t 172) (.c (.int .i64 1))),.m 20 173]) (.region [.m 174 23,.m 21 174])))))))) (
  .seq (.region [.m 175 19,.m 176 20,.o 177 (.bin .sub (.t 175) (.t 176)),.m 24 177]) (
  .seq (.seq (.region [.m 178 20,.m 179 2,.o 180 (.bin .lss (.t 178) (.t 179)),.m 181 180,.g 182 (.move false (.t 2)) 181 true,.g 183 (.move false (.t 24)) 181 true,.g 184 (.bin .lss (.t 182) (.t 183)) 181 true,.o 185 (.pick (.t 181) (.t 184) (.c (.bool false)))]) (
  .cond (.t 185) (.region [.m 186 0,.m 187 20,.m 188 2,.m 189 24,.m 190 4,.o 191 (.call true F.slices_rotateCmpFunc_sent [(.t 186), (.t 187), (.t 188), (.t 189), (.t 190)])]) (.skip))) (
  .seq (.seq (.region [.m 192 1,.m 193 20,.o 194 (.bin .lss (.t 192) (.t 193)),.m 195 194,.g 196 (.move false (.t 20)) 195 true,.g 197 (.move false (.t 18)) 195 true,.g 198 (.bin .lss (.t 196) (.t 197)) 195 true,.o 199 (.pick (.t 195) (.t 198) (.c (.bool false)))]) (
  .cond (.t 199) (.region [.m 200 0,.m 201 1,.m 202 20,.m 203 18,.m 204 4,.o 205 (.call true F.slices_symMergeCmpFunc_sent [(.t 200), (.t 201), (.t 202), (.t 203), (.t 204)])]) (.skip))) (
  .seq (.region [.m 206 18,.m 207 24,.o 208 (.bin .lss (.t 206) (.t 207)),.m 209 208,.g 210 (.move false (.t 24)) 209 true,.g 211 (.move false (.t 3)) 209 true,.g 212 (.bin .lss (.t 210) (.t 211)) 209 true,.o 213 (.pick (.t 209) (.t 212) (.c (.bool false)))]) (
  .cond (.t 213) (.region [.m 214 0,.m 215 18,.m 216 24,.m 217 3,.m 218 4,.o 219 (.call true F.slices_symMergeCmpFunc_sent [(.t 214), (.t 215), (.t 216), (.t 217), (.t 218)])]) (.skip)))))))))))))
def R.slices_symMergeCmpFunc_sent : List ARes := []
set_option maxRecDepth 100000 in
theorem K.slices_symMergeCmpFunc_sent : ckFun Try.prog Try.f217 C.slices_symMergeCmpFunc_sent R.slices_symMergeCmpFunc_sent = true := by kernel_rfl
def C.slices_insertionSortCmpFunc_sent : ACode :=
  .seq (.region [.m 10 1,.o 11 (.bin .add (.t 10) (.c (.int .i64 1))),.m 8 11]) (
  .block 0 (.loop (.seq (.seq (.region [.m 12 8,.m 13 2,.o 14 (.bin .lss (.t 12) (.t 13))]) (
  .cond (.t 14) (.skip) (.exit 0))) (
  .seq (.block 1 (.seq (.region [.m 17 8,.m 9 17]) (
  .block 2 (.loop (.seq (.seq (.drawn [0, 1, 2, 3, 4, 5, 6, 7, 8, 9, 10, 11, 12, 13, 14, 15, 16] [0, 0, 3, 7, 15, 15, 15, 111, 239, 15, 15, 1039, 3599, 7695, 16383, 32767, 65535] [.m 18 9,.m 19 1,.o 20 (.bin .gtr (.t 18) (.t 19)),.m 21 20,.g 22 (.move false (.t 3)) 21 true,.g 23 (.move false (.t 0)) 21 true,.g 24 (.move false (.t 9)) 21 true,.g 25 (.iaddr 7 (.t 23) (.t 24)) 21 true,.g 26 (.load 2 true 7 (.t 25)) 21 true,.g 27 (.move false (.t 0)) 21 true,.g 28 (.move false (.t 9)) 21 true,.g 29 (.bin .sub (.t 28) (.c (.int .i64 1))) 21 true,.g 30 (.iaddr 7 (.t 27) (.t 29)) 21 true,.g 31 (.load 2 true 7 (.t 30)) 21 true,.g 32 (.hop (.callvq (.t 22) [(.t 26), (.t 31)])) 21 true,.g 33 (.bin .lss (.t 32) (.c (.int .i64 0))) 21 true,.o 34 (.pick (.t 21) (.t 33) (.c (.bool false)))]) (
  .cond (.t 34) (.skip) (.exit 2))) (
  .seq (.block 3 (.drawn [0, 1, 2, 3, 4, 5, 6, 7, 8, 9, 10, 11, 12, 13, 14, 15, 16, 17] [0, 0, 0, 0, 8, 0, 0, 64, 224, 480, 0, 0, 3072, 7168, 16355, 32739, 65535, 131071] [.m 37 0,.m 38 9,.m 39 0,.m 40 9,.o 41 (.bin .sub (.t 40) (.c (.int .i64 1))),.m 42 0,.m 43 9,.o 44 (.bin .sub (.t 43) (.c (.int .i64 1))),.o 45 (.iaddr 7 (.t 42) (.t 44)),.o 46 (.load 2 true 7 (.t 45)),.m 47 0,.m 48 9,.o 49 (.iaddr 7 (.t 47) (.t 48)),.o 50 (.load 2 true 7 (.t 49)),.o 51 (.iaddr 7 (.t 37) (.t 38)),⟨none, .store 7 (.t 51) (.t 46), none⟩,.o 52 (.iaddr 7 (.t 39) (.t 41)),⟨none, .store 7 (.t 52) (.t 50), none⟩])) (
  .region [.m 35 9,.o 36 (.bin .sub (.t 35) (.c (.int .i64 1))),.m 9 36]))))))) (
  .region [.m 15 8,.o 16 (.bin .add (.t 15) (.c (.int .i64 1))),.m 8 16])))))
def R.slices_insertionSortCmpFunc_sent : List ARes := []
set_option maxRecDepth 100000 in
theorem K.slices_insertionSortCmpFunc_sent : ckFun Try.prog Try.f216 C.slices_insertionSortCmpFunc_sent R.slices_insertionSortCmpFunc_sent = true := by kernel_rfl
def C.slices_stableCmpFunc_sent : ACode :=
  .seq (.region [.o 6 (.move false (.c (.int .i64 20)))]) (
  .seq (.region [.m 10 6,.o 7 (.move false (.c (.int .i64 0))),.m 8 10]) (
  .seq (.block 0 (.loop (.seq (.seq (.region [.m 11 8,.m 12 1,.o 13 (.bin .leq (.t 11) (.t 12))]) (
  .cond (.t 13) (.skip) (.exit 0))) (
  .block 1 (.seq (.region [.m 14 0,.m 15 7,.m 16 8,.m 17 2,.o 18 (.call true F.slices_insertionSortCmpFunc_sent [(.t 14), (.t 15), (.t 16), (.t 17)])]) (
  .seq (.region [.m 19 8,.m 7 19]) (
  .region [.m 20 8,.m 21 6,.o 22 (.bin .add (.t 20) (.t 21)),.m 8 22]))))))) (
  .seq (.region [.m 23 0,.m 24 7,.m 25 1,.m 26 2,.o 27 (.call true F.slices_insertionSortCmpFunc_sent [(.t 23), (.t 24), (.t 25), (.t 26)])]) (
  .block 2 (.loop (.seq (.seq (.region [.m 28 6,.m 29 1,.o 30 (.bin .lss (.t 28) (.t 29))]) (
  .cond (.t 30) (.skip) (.exit 2))) (
  .block 3 (.seq (.region [.m 31 6,.o 32 (.bin .mul (.c (.int .i64 2)) (.t 31)),.o 7 (.move false (.c (.int .i64 0))),.m 8 32]) (
  .seq (.block 4 (.loop (.seq (.seq (.region [.m 33 8,.m 34 1,.o 35 (.bin .leq (.t 33) (.t 34))]) (
  .cond (.t 35) (.skip) (.exit 4))) (
  .block 5 (.seq (.region [.m 36 0,.m 37 7,.m 38 7,.m 39 6,.o 40 (.bin .add (.t 38) (.t 39)),.m 41 8,.m 42 2,.o 43 (.call true F.slices_symMergeCmpFunc_sent [(.t 36), (.t 37), (.t 40), (.t 41), (.t 42)])]) (
  .seq (.region [.m 44 8,.m 7 44]) (
  .region [.m 45 8,.m 46 6,.o 47 (.bin .mul (.c (.int .i64 2)) (.t 46)),.o 48 (.bin .add (.t 45) (.t 47)),.m 8 48]))))))) (
  .seq (.seq (.region [.m 49 7,.m 50 6,.o 51 (.bin .add (.t 49) (.t 50)),.m 9 51]) (
  .seq (.region [.m 52 9,.m 53 1,.o 54 (.bin .lss (.t 52) (.t 53))]) (
  .cond (.t 54) (.region [.m 55 0,.m 56 7,.m 57 9,.m 58 1,.m 59 2,.o 60 (.call true F.slices_symMergeCmpFunc_sent [(.t 55), (.t 56), (.t 57), (.t 58), (.t 59)])]) (.skip)))) (
  .region [.m 61 6,.o 62 (.bin .mul (.t 61) (.c (.int .i64 2))),.m 6 62])))))))))))
def R.slices_stableCmpFunc_sent : List ARes := []
set_option maxRecDepth 100000 in
theorem K.slices_stableCmpFunc_sent : ckFun Try.prog Try.f199 C.slices_stableCmpFunc_sent R.slices_stableCmpFunc_sent = true := by kernel_rfl
def C.slices_SortStableFunc_sent : ACode :=
  .region [.m 4 0,.m 5 0,.o 6 (.len (.t 5)),.m 7 1,.o 8 (.call true F.slices_stableCmpFunc_sent [(.t 4), (.t 6), (.t 7)])]
def R.slices_SortStableFunc_sent : List ARes := []
set_option maxRecDepth 100000 in
theorem K.slices_SortStableFunc_sent : ckFun Try.prog Try.f166 C.slices_SortStableFunc_sent R.slices_SortStableFunc_sent = true := by kernel_rfl
def C.net_Net_Take_1 : ACode :=
  .seq (.region [.o 2 (.bx true (.t 0)),.o 3 (.bx true (.t 1)),.o 4 (.move false (.c (.int .i64 0)))]) (
  .seq (.region [.o 5 (.faddr 0 (.t 2)),.o 6 (.load 2 false 1 (.t 5)),.o 7 (.faddr 0 (.t 3)),.o 8 (.load 2 false 1 (.t 7)),.o 9 (.bin .sub (.t 6) (.t 8)),.m 4 9]) (
  .ret))
def R.net_Net_Take_1 : List ARes := [.t 4]
set_option maxRecDepth 100000 in
theorem K.net_Net_Take_1 : ckFun Try.prog Try.f167 C.net_Net_Take_1 R.net_Net_Take_1 = true := by kernel_rfl
def C.net_Net_Take : ACode :=
  .seq (.region [.o 6 (.move false (.c (.lst .nil [])))]) (
  .seq (.region [.o 7 (.move false (.c (.lst .nil []))),.o 8 (.move false (.c (.lst .nil [])))]) (
  .seq (.seq (.region [.m 14 0,.o 15 (.nilck (.t 14)),.o 16 (.faddr 2 (.t 15)),.o 17 (.load 2 false 1 (.t 16)),.o 18 (.len (.t 17)),.o 19 (.move false (.c (.int .i64 0)))]) (
  .block 0 (.loop (.seq (.region [.o 20 (.bin .lss (.t 19) (.t 18))]) (
  .seq (.cond (.t 20) (.skip) (.exit 0)) (
  .seq (.block 1 (.seq (.region [.o 21 (.iaddr 7 (.t 17) (.t 19)),.o 22 (.load 2 true 7 (.t 21)),.o 10 (.alloc false [(.int .i64 0), (.int .i64 0), (.int .i64 0), (.int .i64 0), (.int .i64 0), (.int .u32 0), (.lst .nil [])]),⟨none, .store 7 (.t 10) (.t 22), none⟩]) (
  .seq (.region [.o 23 (.faddr 1 (.t 10)),.o 24 (.faddr 2 (.t 23)),.o 25 (.load 2 false 1 (.t 24)),.m 26 2,.o 27 (.bin .eql (.t 25) (.t 26)),.m 28 27,.g 29 (.faddr 0 (.t 10)) 28 true,.g 30 (.load 2 false 1 (.t 29)) 28 true,.g 31 (.move false (.t 1)) 28 true,.g 32 (.bin .leq (.t 30) (.t 31)) 28 true,.o 33 (.pick (.t 28) (.t 32) (.c (.bool false)))]) (
  .cond (.t 33) (.region [.o 34 (.move true (.t 7)),.o 35 (.load 2 true 7 (.t 10)),.o 36 (.buildS false 7 [(.t 35)]),.o 37 (.hop (.appendR 7 72 (.t 34) (.t 36))),.o 7 (.move true (.t 37))]) (.region [.o 38 (.move true (.t 8)),.o 39 (.load 2 true 7 (.t 10)),.o 40 (.buildS false 7 [(.t 39)]),.o 41 (.append 7 72 (.t 38) (.t 40)),.o 8 (.move true (.t 41))]))))) (
  .region [.o 42 (.bin .add (.t 19) (.c (.int .i64 1))),.m 19 42]))))))) (
  .seq (.region [.m 43 0,.o 44 (.move true (.t 8)),.o 45 (.nilck (.t 43)),.o 46 (.faddr 2 (.t 45)),⟨none, .store 1 (.t 46) (.t 44), none⟩]) (
  .seq (.region [.m 47 7,.o 48 (.call true F.slices_SortStableFunc_sent [(.t 47), (.c (.func 167 []))])]) (
  .seq (.region [.o 11 (.move false (.c (.lst .nil [])))]) (
  .seq (.seq (.region [.m 49 7,.o 50 (.len (.t 49)),.o 51 (.move false (.c (.int .i64 0)))]) (
  .block 2 (.loop (.seq (.region [.o 52 (.bin .lss (.t 51) (.t 50))]) (
  .seq (.cond (.t 52) (.skip) (.exit 2)) (
  .seq (.block 3 (.seq (.region [.o 53 (.iaddr 7 (.t 49) (.t 51)),.o 54 (.load 2 true 7 (.t 53)),.o 13 (.alloc false [(.int .i64 0), (.int .i64 0), (.int .i64 0), (.int .i64 0), (.int .i64 0), (.int .u32 0), (.lst .nil [])]),⟨none, .store 7 (.t 13) (.t 54), none⟩]) (
  .region [.o 55 (.move true (.t 11)),.o 56 (.faddr 1 (.t 13)),.o 57 (.load 2 true 6 (.t 56)),.o 58 (.buildS false 6 [(.t 57)]),.o 59 (.append 6 64 (.t 55) (.t 58)),.o 11 (.move true (.t 59))]))) (
  .region [.o 60 (.bin .add (.t 51) (.c (.int .i64 1))),.m 51 60]))))))) (
  .seq (.region [.o 61 (.move true (.t 11)),.o 6 (.move true (.t 61))]) (
  .ret))))))))
def R.net_Net_Take : List ARes := [.t 6]
set_option maxRecDepth 100000 in
theorem K.net_Net_Take : ckFun Try.prog Try.f87 C.net_Net_Take R.net_Net_Take = true := by kernel_rfl
end Go.Proofs.Ytpdajkbfemcdlaa
namespace Go.Proofs.Ytpdajkbfemcdlaa
open Go.Ge
def C.slices_Clone_Fault : ACode :=
  .seq (.region [.o 2 (.move false (.c (.lst .nil [])))]) (
  .seq (.seq (.region [.m 3 0,.o 4 (.isnil false false (.t 3))]) (
  .cond (.t 4) (.seq (.region [.o 2 (.move false (.c (.lst .nil [])))]) (
  .ret)) (.skip))) (
  .seq (.region [.o 5 (.buildS false 3 []),.m 6 0,.o 7 (.append 3 24 (.t 5) (.t 6)),.o 2 (.move true (.t 7))]) (
  .ret)))
def R.slices_Clone_Fault : List ARes := [.t 2]
set_option maxRecDepth 100000 in
theorem K.slices_Clone_Fault : ckFun Try.prog Try.f165 C.slices_Clone_Fault R.slices_Clone_Fault = true := by kernel_rfl
def C.net_New : ACode :=
  .seq (.region [.o 2 (.move false (.c .nilptr))]) (
  .seq (.region [.m 3 0,.o 4 (.call true F.slices_Clone_Fault [(.t 3)]),.o 5 (.build [(.lst .nil []), (.int .i64 0), (.lst .nil [])] [(0, 1, (.t 4))]),.o 6 (.bx true (.t 5)),.m 2 6]) (
  .prom 6 (.ret)))
def R.net_New : List ARes := [.t 2]
set_option maxRecDepth 100000 in
theorem K.net_New : ckFun Try.prog Try.f84 C.net_New R.net_New = true := by kernel_rfl
def C.net_Net_Send : ACode :=
  .seq (.region [.o 5 (.bx true (.t 2)),.o 6 (.move false (.c (.int .i64 0)))]) (
  .seq (.seq (.region [.m 12 1,.o 13 (.bin .lss (.t 12) (.c (.int .i64 0))),.m 14 13,.g 15 (.move false (.t 1)) 14 false,.g 16 (.bin .gtr (.t 15) (.c (.int .i64 2000))) 14 false,.o 17 (.pick (.t 14) (.c (.bool true)) (.t 16))]) (
  .cond (.t 17) (.seq (.region [.o 6 (.move false (.c (.int .i64 1)))]) (
  .ret)) (.skip))) (
  .seq (.seq (.region [.m 18 1,.m 19 0,.o 20 (.nilck (.t 19)),.o 21 (.faddr 1 (.t 20)),.o 22 (.load 2 false 1 (.t 21)),.o 23 (.bin .lss (.t 18) (.t 22))]) (
  .cond (.t 23) (.seq (.region [.o 6 (.move false (.c (.int .i64 9)))]) (
  .ret)) (.skip))) (
  .seq (.seq (.region [.o 24 (.load 2 true 6 (.t 5)),.o 25 (.call true F.msg_Check [(.t 24)]),.m 7 25]) (
  .seq (.region [.m 26 7,.o 27 (.bin .neq (.t 26) (.c (.int .i64 0)))]) (
  .cond (.t 27) (.seq (.region [.m 28 7,.m 6 28]) (
  .ret)) (.skip)))) (
  .seq (.region [.o 8 (.move false (.c (.int .i64 1))),.o 9 (.move false (.c (.int .i64 0)))]) (
  .seq (.seq (.region [.m 29 0,.o 30 (.nilck (.t 29)),.o 31 (.faddr 0 (.t 30)),.o 32 (.load 2 false 1 (.t 31)),.o 33 (.len (.t 32)),.o 34 (.move false (.c (.int .i64 0)))]) (
  .block 0 (.loop (.seq (.region [.o 35 (.bin .lss (.t 34) (.t 33))]) (
  .seq (.cond (.t 35) (.skip) (.exit 0)) (
  .seq (.block 1 (.seq (.region [.o 36 (.iaddr 3 (.t 32) (.t 34)),.o 37 (.load 2 true 3 (.t 36)),.o 11 (.alloc false [(.int .i64 0), (.int .i64 0), (.int .i64 0)]),⟨none, .store 3 (.t 11) (.t 37), none⟩]) (
  .seq (.seq (.region [.o 38 (.faddr 0 (.t 11)),.o 39 (.load 2 false 1 (.t 38)),.m 40 1,.o 41 (.bin .neq (.t 39) (.t 40))]) (
  .cond (.t 41) (.exit 1) (.skip))) (
  .seq (.block 2 (.seq (.region [.o 43 (.faddr 1 (.t 11)),.o 44 (.load 2 false 1 (.t 43)),.o 45 (.bin .eql (.t 44) (.c (.int .i64 0))),.m 46 45,.g 47 (.faddr 2 (.t 11)) 46 true,.g 48 (.load 2 false 1 (.t 47)) 46 true,.g 49 (.faddr 1 (.t 5)) 46 true,.g 50 (.load 2 false 1 (.t 49)) 46 true,.g 51 (.bin .eql (.t 48) (.t 50)) 46 true,.o 52 (.pick (.t 46) (.t 51) (.c (.bool false))),.m 42 52]) (
  .cond (.t 42) (.region [.o 8 (.move false (.c (.int .i64 0)))]) (.seq (.region [.o 54 (.faddr 1 (.t 11)),.o 55 (.load 2 false 1 (.t 54)),.o 56 (.bin .eql (.t 55) (.c (.int .i64 1))),.m 57 56,.g 58 (.faddr 2 (.t 11)) 57 true,.g 59 (.load 2 false 1 (.t 58)) 57 true,.g 60 (.faddr 1 (.t 5)) 57 true,.g 61 (.load 2 false 1 (.t 60)) 57 true,.g 62 (.bin .eql (.t 59) (.t 61)) 57 true,.o 63 (.pick (.t 57) (.t 62) (.c (.bool false))),.m 53 63]) (
  .cond (.t 53) (.region [.m 64 8,.o 65 (.bin .mul (.t 64) (.c (.int .i64 2))),.m 8 65]) (.seq (.region [.o 67 (.faddr 1 (.t 11)),.o 68 (.load 2 false 1 (.t 67)),.o 69 (.bin .eql (.t 68) (.c (.int .i64 2))),.m 70 69,.g 71 (.faddr 2 (.t 11)) 70 true,.g 72 (.load 2 false 1 (.t 71)) 70 true,.g 73 (.bin .gtr (.t 72) (.c (.int .i64 0))) 70 true,.o 74 (.pick (.t 70) (.t 73) (.c (.bool false))),.m 75 74,.g 76 (.faddr 2 (.t 11)) 75 true,.g 77 (.load 2 false 1 (.t 76)) 75 true,.g 78 (.bin .leq (.t 77) (.c (.int .i64 2000))) 75 true,.o 79 (.pick (.t 75) (.t 78) (.c (.bool false))),.m 66 79]) (
  .cond (.t 66) (.region [.m 80 9,.o 81 (.faddr 2 (.t 11)),.o 82 (.load 2 false 1 (.t 81)),.o 83 (.mx (.t 80) [(.t 82)]),.m 9 83]) (.skip)))))))) (
  .region [.m 84 8,.o 85 (.mn (.t 84) [(.c (.int .i64 2))]),.m 8 85]))))) (
  .region [.o 86 (.bin .add (.t 34) (.c (.int .i64 1))),.m 34 86]))))))) (
  .seq (.seq (.region [.m 87 0,.o 88 (.nilck (.t 87)),.o 89 (.faddr 2 (.t 88)),.o 90 (.load 2 false 1 (.t 89)),.o 91 (.len (.t 90)),.m 92 8,.o 93 (.bin .add (.t 91) (.t 92)),.o 94 (.bin .gtr (.t 93) (.c (.int .i64 1000)))]) (
  .cond (.t 94) (.seq (.region [.o 6 (.move false (.c (.int .i64 6)))]) (
  .ret)) (.skip))) (
  .seq (.region [.m 95 0,.m 96 1,.o 97 (.nilck (.t 95)),.o 98 (.faddr 1 (.t 97)),⟨none, .store 1 (.t 98) (.t 96), none⟩]) (
  .seq (.seq (.region [.m 99 8,.o 100 (.move false (.c (.int .i64 0)))]) (
  .block 3 (.loop (.seq (.region [.o 101 (.bin .lss (.t 100) (.t 99))]) (
  .seq (.cond (.t 101) (.skip) (.exit 3)) (
  .seq (.block 4 (.drawn [0, 1, 2, 3, 5, 6, 7, 8, 9, 4, 10, 11, 12, 13, 14, 15, 16] [0, 0, 2, 6, 14, 0, 32, 0, 224, 0, 512, 2016, 4064, 8190, 16383, 32767, 65535] [.m 102 0,.m 103 0,.o 104 (.nilck (.t 103)),.o 105 (.faddr 2 (.t 104)),.m 107 1,.o 108 (.bin .add (.t 107) (.c (.int .i64 1))),.m 109 9,.o 110 (.bin .add (.t 108) (.t 109)),.o 111 (.load 1 true 6 (.t 5)),.o 106 (.loadT (.t 105)),.o 112 (.hop (.callp F.msg_Copy [(.t 111)])),.o 113 (.build [(.int .i64 0), (.int .i64 0), (.int .i64 0), (.int .i64 0), (.int .i64 0), (.int .u32 0), (.lst .nil [])] [(0, 1, (.t 110)), (1, 6, (.t 112))]),.o 114 (.buildS false 7 [(.t 113)]),.o 115 (.append 7 72 (.t 106) (.t 114)),.o 116 (.nilck (.t 102)),.o 117 (.faddr 2 (.t 116)),⟨none, .store 1 (.t 117) (.t 115), none⟩])) (
  .region [.o 118 (.bin .add (.t 100) (.c (.int .i64 1))),.m 100 118]))))))) (
  .seq (.region [.o 6 (.move false (.c (.int .i64 0)))]) (
  .ret))))))))))
def R.net_Net_Send : List ARes := [.t 6]
set_option maxRecDepth 100000 in
theorem K.net_Net_Send : ckFun Try.prog Try.f85 C.net_Net_Send R.net_Net_Send = true := by kernel_rfl
end Go.Proofs.Ytpdajkbfemcdlaa
namespace Go.Proofs.Ytpdajkbfemcdlaa
open Go.Ge
def C.gantkeep5_linked : ACode :=
  .seq (.region [.o 6 (.alloc false [(.lst .nil []), (.lst .nil [])]),.o 7 (.alloc false [(.int .i64 0), (.int .i64 0)]),.o 8 (.move false (.c (.bool false)))]) (
  .seq (.region [.o 9 (.alloc false [.nilptr, .nilptr])]) (
  .seq (.region [.o 10 (.alloc false [(.lst .nil []), (.lst .nil [])])]) (
  .seq (.region [.m 23 0,.o 24 (.call true F.net_New [(.t 23)]),.m 11 24]) (
  .seq (.seq (.region [.o 25 (.move false (.c (.int .i64 0)))]) (
  .block 0 (.loop (.seq (.region [.o 26 (.bin .lss (.t 25) (.c (.int .i64 2)))]) (
  .seq (.cond (.t 26) (.skip) (.exit 0)) (
  .seq (.block 1 (.seq (.region [.m 27 25,.m 12 27]) (
  .seq (.region [.m 29 12,.m 30 12,.o 31 (.bin .sub (.c (.int .i64 1)) (.t 30)),.o 32 (.call true F.link_New [(.t 29), (.t 31)]),.m 28 32,.o 33 (.ext 0 (.t 28)),.o 34 (.ext 1 (.t 28)),.m 13 33,.m 14 34]) (
  .seq (.seq (.region [.m 35 14,.o 36 (.bin .neq (.t 35) (.c (.int .i64 0))),.m 37 36,.g 38 (.move false (.t 13)) 37 false,.g 39 (.pnil false (.t 38)) 37 false,.o 40 (.pick (.t 37) (.c (.bool true)) (.t 39)),.m 41 40,.g 42 (.move false (.t 11)) 41 false,.g 43 (.pnil false (.t 42)) 41 false,.o 44 (.pick (.t 41) (.c (.bool true)) (.t 43))]) (
  .cond (.t 44) (.seq (.region [.o 45 (.load 2 true 2 (.t 10)),.o 46 (.build [(.int .i64 0), (.int .i64 0)] []),⟨none, .store 2 (.t 6) (.t 45), none⟩,⟨none, .store 2 (.t 7) (.t 46), none⟩,.o 8 (.move false (.c (.bool false)))]) (
  .ret)) (.skip))) (
  .region [.m 47 12,.m 48 13,.o 49 (.aaddr 2 1 (.t 9) (.t 47)),⟨none, .store 1 (.t 49) (.t 48), none⟩]))))) (
  .region [.o 50 (.bin .add (.t 25) (.c (.int .i64 1))),.m 25 50]))))))) (
  .seq (.seq (.region [.m 51 2,.o 52 (.move false (.c (.int .i64 0)))]) (
  .block 2 (.loop (.seq (.region [.o 53 (.bin .lss (.t 52) (.t 51))]) (
  .seq (.cond (.t 53) (.skip) (.exit 2)) (
  .seq (.block 3 (.seq (.region [.m 54 52,.m 15 54]) (
  .seq (.seq (.region [.m 55 15,.m 56 1,.o 57 (.len (.t 56)),.o 58 (.bin .lss (.t 55) (.t 57))]) (
  .cond (.t 58) (.seq (.region [.m 59 1,.m 60 15,.o 61 (.iaddr 1 (.t 59) (.t 60)),.o 62 (.load 2 false 1 (.t 61)),.o 63 (.call true F.gantmake_Below [(.t 62), (.c (.int .i64 2))]),.m 16 63]) (
  .seq (.drawn [0, 1, 2, 3, 4, 5, 6, 7, 9, 10, 11, 12, 13, 15, 16, 8, 14, 17, 18, 19, 20] [0, 1, 3, 0, 0, 24, 56, 120, 248, 0, 0, 1536, 3584, 7680, 16376, 0, 32768, 131064, 262136, 524287, 1048575] [.m 64 16,.o 65 (.aaddr 2 1 (.t 9) (.t 64)),.o 66 (.load 1 false 1 (.t 65)),.m 67 1,.m 68 15,.o 69 (.iaddr 1 (.t 67) (.t 68)),.o 70 (.load 0 false 1 (.t 69)),.o 71 (.bin .quo (.t 70) (.c (.int .i64 2))),.m 73 1,.m 74 15,.o 75 (.iaddr 1 (.t 73) (.t 74)),.o 76 (.load 0 false 1 (.t 75)),.o 77 (.bin .quo (.t 76) (.c (.int .i64 6))),.m 79 15,.o 80 (.bin .rem (.t 79) (.c (.int .i64 60))),.o 72 (.call false F.gantmake_Below [(.t 71), (.c (.int .i64 3))]),.o 78 (.call false F.gantmake_Below [(.t 77), (.c (.int .i64 9))]),.o 81 (.build [(.int .i64 0), (.int .i64 0)] [(0, 1, (.t 78)), (1, 1, (.t 80))]),.o 82 (.buildS false 2 [(.t 81)]),.o 83 (.call false F.link_End_Put [(.t 66), (.t 72), (.t 82)]),.o 84 (.bin .neq (.t 83) (.c (.int .i64 0)))]) (
  .cond (.t 84) (.seq (.region [.o 85 (.load 2 true 2 (.t 10)),.o 86 (.build [(.int .i64 0), (.int .i64 0)] []),⟨none, .store 2 (.t 6) (.t 85), none⟩,⟨none, .store 2 (.t 7) (.t 86), none⟩,.o 8 (.move false (.c (.bool false)))]) (
  .ret)) (.skip)))) (.skip))) (
  .seq (.region [.o 87 (.load 2 true 2 (.t 9)),.o 88 (.move false (.c (.int .i64 0)))]) (
  .block 4 (.loop (.seq (.region [.o 89 (.bin .lss (.t 88) (.c (.int .i64 2)))]) (
  .seq (.cond (.t 89) (.skip) (.exit 4)) (
  .seq (.block 5 (.seq (.region [.m 90 88,.o 91 (.aidx false 2 1 (.t 87) (.t 88)),.m 17 90,.m 18 91]) (
  .seq (.seq (.region [.m 92 11,.m 93 15,.m 94 17,.o 95 (.call true F.net_Net_Take [(.t 92), (.t 93), (.t 94)]),.o 96 (.len (.t 95)),.o 97 (.move false (.c (.int .i64 0)))]) (
  .block 6 (.loop (.seq (.region [.o 98 (.bin .lss (.t 97) (.t 96))]) (
  .seq (.cond (.t 98) (.skip) (.exit 6)) (
  .seq (.block 7 (.seq (.region [.o 99 (.iaddr 6 (.t 95) (.t 97)),.o 100 (.load 2 true 6 (.t 99)),.o 20 (.alloc false [(.int .i64 0), (.int .i64 0), (.int .i64 0), (.int .i64 0), (.int .u32 0), (.lst .nil [])]),⟨none, .store 6 (.t 20) (.t 100), none⟩]) (
  .seq (.region [.m 101 18,.o 102 (.load 2 true 6 (.t 20)),.o 103 (.call true F.link_End_In [(.t 101), (.t 102)]),.o 104 (.bin .neq (.t 103) (.c (.int .i64 0)))]) (
  .cond (.t 104) (.seq (.region [.o 105 (.load 2 true 2 (.t 10)),.o 106 (.build [(.int .i64 0), (.int .i64 0)] []),⟨none, .store 2 (.t 6) (.t 105), none⟩,⟨none, .store 2 (.t 7) (.t 106), none⟩,.o 8 (.move false (.c (.bool false)))]) (
  .ret)) (.skip))))) (
  .region [.o 107 (.bin .add (.t 97) (.c (.int .i64 1))),.m 97 107]))))))) (
  .seq (.drawn [0, 1, 2, 4, 3, 5, 6, 7, 8] [0, 0, 2, 6, 0, 16, 62, 127, 255] [.m 108 17,.m 109 17,.o 110 (.aaddr 2 1 (.t 10) (.t 109)),.m 112 18,.o 111 (.loadU 10 (.t 110)),.o 113 (.call false F.link_End_Take [(.t 112)]),.o 114 (.append 6 64 (.t 111) (.t 113)),.o 115 (.aaddr 2 1 (.t 10) (.t 108)),⟨none, .store 1 (.t 115) (.t 114), none⟩]) (
  .seq (.region [.m 116 18,.m 117 15,.m 118 15,.o 119 (.conv .u32 (.t 118)),.o 120 (.call true F.link_End_Out [(.t 116), (.t 117), (.t 119)]),.o 121 (.len (.t 120)),.o 122 (.move false (.c (.int .i64 0)))]) (
  .block 8 (.loop (.seq (.region [.o 123 (.bin .lss (.t 122) (.t 121))]) (
  .seq (.cond (.t 123) (.skip) (.exit 8)) (
  .seq (.block 9 (.seq (.region [.o 124 (.iaddr 6 (.t 120) (.t 122)),.o 125 (.load 2 true 6 (.t 124)),.o 22 (.alloc false [(.int .i64 0), (.int .i64 0), (.int .i64 0), (.int .i64 0), (.int .u32 0), (.lst .nil [])]),⟨none, .store 6 (.t 22) (.t 125), none⟩]) (
  .seq (.region [.m 126 11,.m 127 15,.o 128 (.load 2 true 6 (.t 22)),.o 129 (.call true F.net_Net_Send [(.t 126), (.t 127), (.t 128)]),.o 130 (.bin .neq (.t 129) (.c (.int .i64 0)))]) (
  .cond (.t 130) (.seq (.region [.o 131 (.load 2 true 2 (.t 10)),.o 132 (.build [(.int .i64 0), (.int .i64 0)] []),⟨none, .store 2 (.t 6) (.t 131), none⟩,⟨none, .store 2 (.t 7) (.t 132), none⟩,.o 8 (.move false (.c (.bool false)))]) (
  .ret)) (.skip))))) (
  .region [.o 133 (.bin .add (.t 122) (.c (.int .i64 1))),.m 122 133]))))))))))) (
  .region [.o 134 (.bin .add (.t 88) (.c (.int .i64 1))),.m 88 134])))))))))) (
  .region [.o 135 (.bin .add (.t 52) (.c (.int .i64 1))),.m 52 135]))))))) (
  .seq (.drawn [0, 1, 2, 4, 5, 3, 6, 7, 8, 9, 10] [0, 0, 2, 6, 0, 16, 62, 126, 127, 511, 1023] [.o 136 (.load 1 true 2 (.t 10)),.o 137 (.aaddr 2 1 (.t 9) (.c (.int .i64 0))),.o 138 (.load 1 false 1 (.t 137)),.o 140 (.aaddr 2 1 (.t 9) (.c (.int .i64 1))),.o 141 (.load 1 false 1 (.t 140)),.o 139 (.hop (.callq F.link_End_Waits [(.t 138)])),.o 142 (.hop (.callq F.link_End_Waits [(.t 141)])),.o 143 (.build [(.int .i64 0), (.int .i64 0)] [(0, 1, (.t 139)), (1, 1, (.t 142))]),⟨none, .store 2 (.t 6) (.t 136), none⟩,⟨none, .store 2 (.t 7) (.t 143), none⟩,.o 8 (.move false (.c (.bool true)))]) (
  .ret)))))))
def R.gantkeep5_linked : List ARes := [.c 6 true 2, .c 7 true 2, .t 8]
set_option maxRecDepth 100000 in
theorem K.gantkeep5_linked : ckFun Try.prog Try.f91 C.gantkeep5_linked R.gantkeep5_linked = true := by kernel_rfl
def C.gantkeep5_LinkAll : ACode :=
  .seq (.region [.o 4 (.move false (.c (.bool false)))]) (
  .seq (.seq (.region [.o 15 (.buildS false 1 [(.c (.int .i64 0))]),.o 16 (.call true F.gantkeep5_linked [(.c (.lst .nil [])), (.t 15), (.c (.int .i64 6))]),.o 14 (.moveX 16),.o 17 (.extT 0 14),.o 18 (.extT 1 14),.o 19 (.ext 2 (.t 14)),.o 5 (.alloc false [(.lst .nil []), (.lst .nil [])]),.o 6 (.alloc false [(.int .i64 0), (.int .i64 0)]),⟨none, .store 2 (.t 5) (.t 17), none⟩,⟨none, .store 2 (.t 6) (.t 18), none⟩,.m 7 19]) (
  .seq (.region [.m 20 7,.o 21 (.un .not (.t 20)),.m 22 21,.g 23 (.aaddr 2 1 (.t 5) (.c (.int .i64 1))) 22 false,.g 24 (.load 2 false 1 (.t 23)) 22 false,.g 25 (.len (.t 24)) 22 false,.g 26 (.bin .neq (.t 25) (.c (.int .i64 1))) 22 false,.o 27 (.pick (.t 22) (.c (.bool true)) (.t 26)),.m 28 27,.g 29 (.aaddr 2 1 (.t 6) (.c (.int .i64 0))) 28 false,.g 30 (.load 2 false 1 (.t 29)) 28 false,.g 31 (.bin .neq (.t 30) (.c (.int .i64 0))) 28 false,.o 32 (.pick (.t 28) (.c (.bool true)) (.t 31))]) (
  .cond (.t 32) (.seq (.region [.o 4 (.move false (.c (.bool false)))]) (
  .ret)) (.skip)))) (
  .seq (.region [.m 33 1,.m 34 1,.o 35 (.len (.t 34)),.o 36 (.mn (.t 35) [(.c (.int .i64 20))]),.o 37 (.slice 1 (.t 33) none (some (.t 36)) none),.m 1 37]) (
  .seq (.region [.o 8 (.move false (.c (.lst .nil [])))]) (
  .seq (.seq (.region [.m 38 0,.m 39 0,.o 40 (.len (.t 39)),.o 41 (.mn (.t 40) [(.c (.int .i64 12))]),.o 42 (.slice 3 (.t 38) none (some (.t 41)) none),.o 43 (.len (.t 42)),.o 44 (.move false (.c (.int .i64 0)))]) (
  .block 0 (.loop (.seq (.region [.o 45 (.bin .lss (.t 44) (.t 43))]) (
  .seq (.cond (.t 45) (.skip) (.exit 0)) (
  .seq (.block 1 (.seq (.region [.o 46 (.iaddr 3 (.t 42) (.t 44)),.o 47 (.load 2 true 3 (.t 46)),.o 10 (.alloc false [(.int .i64 0), (.int .i64 0), (.int .i64 0)]),⟨none, .store 3 (.t 10) (.t 47), none⟩]) (
  .drawn [1, 2, 4, 5, 7, 8, 0, 3, 6, 9, 10, 11, 12, 13] [0, 0, 2, 6, 0, 16, 62, 0, 128, 510, 1022, 2046, 4095, 8191] [.o 49 (.faddr 0 (.t 10)),.o 50 (.load 1 false 1 (.t 49)),.o 52 (.faddr 1 (.t 10)),.o 53 (.load 1 false 1 (.t 52)),.o 55 (.faddr 2 (.t 10)),.o 56 (.load 1 false 1 (.t 55)),.o 48 (.move true (.t 8)),.o 51 (.hop (.callp F.gantmake_Below [(.t 50), (.c (.int .i64 40))])),.o 54 (.hop (.callp F.gantmake_Below [(.t 53), (.c (.int .i64 3))])),.o 57 (.hop (.callp F.gantmake_Below [(.t 56), (.c (.int .i64 5))])),.o 58 (.build [(.int .i64 0), (.int .i64 0), (.int .i64 0)] [(0, 1, (.t 51)), (1, 1, (.t 54)), (2, 1, (.t 57))]),.o 59 (.buildS false 3 [(.t 58)]),.o 60 (.append 3 24 (.t 48) (.t 59)),.o 8 (.move true (.t 60))]))) (
  .region [.o 61 (.bin .add (.t 44) (.c (.int .i64 1))),.m 44 61]))))))) (
  .seq (.region [.m 63 8,.m 64 1,.o 65 (.call true F.gantkeep5_linked [(.t 63), (.t 64), (.c (.int .i64 120))]),.o 62 (.moveX 65),.o 66 (.extT 0 62),.o 67 (.extT 1 62),.o 68 (.ext 2 (.t 62)),.o 11 (.alloc false [(.lst .nil []), (.lst .nil [])]),.o 12 (.alloc false [(.int .i64 0), (.int .i64 0)]),⟨none, .store 2 (.t 11) (.t 66), none⟩,⟨none, .store 2 (.t 12) (.t 67), none⟩,.m 13 68]) (
  .seq (.region [.m 69 13,.m 70 69,.g 71 (.aaddr 2 1 (.t 11) (.c (.int .i64 0))) 70 true,.g 72 (.load 2 false 1 (.t 71)) 70 true,.g 73 (.len (.t 72)) 70 true,.g 74 (.aaddr 2 1 (.t 11) (.c (.int .i64 1))) 70 true,.g 75 (.load 2 false 1 (.t 74)) 70 true,.g 76 (.len (.t 75)) 70 true,.g 77 (.bin .add (.t 73) (.t 76)) 70 true,.g 78 (.move false (.t 1)) 70 true,.g 79 (.len (.t 78)) 70 true,.g 80 (.bin .eql (.t 77) (.t 79)) 70 true,.o 81 (.pick (.t 70) (.t 80) (.c (.bool false))),.m 82 81,.g 83 (.load 2 true 2 (.t 12)) 82 true,.g 84 (.build [(.int .i64 0), (.int .i64 0)] []) 82 true,.g 85 (.eqs false [.i .i64, .i .i64] (.t 83) (.t 84)) 82 true,.o 86 (.pick (.t 82) (.t 85) (.c (.bool false))),.m 4 86]) (
  .ret)))))))
def R.gantkeep5_LinkAll : List ARes := [.t 4]
set_option maxRecDepth 100000 in
theorem K.gantkeep5_LinkAll : ckFun Try.prog Try.f20 C.gantkeep5_LinkAll R.gantkeep5_LinkAll = true := by kernel_rfl
end Go.Proofs.Ytpdajkbfemcdlaa
