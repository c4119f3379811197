import Derived.Test.YtpdajkbfemcdlaaZB1
set_option linter.unusedSimpArgs false
set_option linter.unusedVariables false
set_option maxRecDepth 10000
namespace Go.Proofs.Ytpdajkbfemcdlaa
open Go.Ge
structure LkE (q : Own) (puts : List Int) (ticks nid a b : Nat) (S : AState) : Prop where
  e1 : S.env 1 = .lst q (ints .i64 puts)
  e11 : S.env 11 = .hp nid 0
  e9 : S.env 9 = .box 9 0
  e10 : S.env 10 = .box 10 0
  e6 : S.env 6 = .box 6 0
  e7 : S.env 7 = .box 7 0
  e51 : S.env 51 = .int .i64 ticks
  b9 : S.boxes 9 = some [.hp a 0, .hp b 0]
  b6 : S.boxes 6 = some [.lst .nil [], .lst .nil []]
  b7 : S.boxes 7 = some [.int .i64 0, .int .i64 0]
theorem MsgsOk.app : ∀ {l m : List Msg} {xs ys : List AVal}, MsgsOk l xs → MsgsOk m ys → MsgsOk (l ++ m) (xs ++ ys)
  | [], m, xs, ys, h, k => by simp only[MsgsOk] at h; subst h; exact k
  | a :: l, m, xs, ys, h, k => by
    obtain ⟨x, zs, rfl, h1, h2⟩ := h
    exact ⟨x, zs ++ ys, rfl, h1, h2.app k⟩
theorem MsgsOk.width : ∀ {l : List Msg} {xs : List AVal}, MsgsOk l xs → ∀ x ∈ xs, x.width = 6
  | [], xs, h => by simp only[MsgsOk] at h; subst h; simp
  | a :: l, xs, h => by
    obtain ⟨x, zs, rfl, ⟨o, _, _, rfl⟩, h2⟩ := h
    intro y hy
    rcases List.mem_cons.1 hy with rfl | hy
    · rfl
    · exact h2.width y hy
theorem GotR.cases {v : AVal} {l : List Msg} (h : GotR v l) : ∃ o xs, v = .lst o xs ∧ MsgsOk l xs ∧ (o = .nil ∧ xs = [] ∨ o = .app 6) := by
  rcases h with ⟨rfl, rfl⟩ | ⟨xs, rfl, h⟩
  · exact ⟨.nil, [], rfl, rfl, .inl ⟨rfl, rfl⟩⟩
  · exact ⟨.app 6, xs, rfl, h, .inr rfl⟩
theorem tdivI {x : Int} (h : inI64 x) (c : Nat) (hc : 2 ≤ c) : inI64 (x.tdiv c) := by
  have h1 : (x.tdiv c).natAbs = x.natAbs / c := by rw [Int.natAbs_tdiv]; rfl
  have h2 : x.natAbs / c ≤ x.natAbs / 2 := Nat.div_le_div_left hc (by omega)
  unfold inI64 at h ⊢
  omega
theorem at_putI {l : List Int} {i : Nat} (h : i < l.length) : at_ (ints .i64 l) (i : Int) = .int .i64 l[i] := by
  simp [at_, ints, List.getD_eq_getElem?_getD, h]
theorem at_outF {L : List Fl} {i : Nat} (h : i < L.length) : at_ (L.map outA) (i : Int) = msgA (ownB L[i].1) L[i].2.1 := by
  simp [at_, List.getD_eq_getElem?_getD, h, outA]
theorem way_of2 {L : List Fl} {c : Nat} {m : Msg} {due : Int} (h : L.map (·.2) = List.replicate c (m, due)) (hd : 0 ≤ due ∧ due ≤ 5000) (hc : checkF m = 0) (hb : ∀ x ∈ L, x.1 = false → x.2.1.Cells = []) : WayI L := by
  intro x hx
  have : x.2 ∈ L.map (·.2) := List.mem_map.2 ⟨x, hx, rfl⟩
  rw [h] at this
  have e := List.eq_of_mem_replicate this
  refine ⟨?_, ?_, ?_, hb x hx⟩
  · unfold kd; rw [e]; exact hd.1
  · unfold kd; rw [e]; exact hd.2
  · rw [e]; exact hc
theorem sendE_fine {fs : List Fault} {tk : Int} {n : Nat} {tick : Int} {m : Msg} (h : sendE fs tk n tick m = 0) : checkF m = 0 := by
  unfold sendE at h
  by_cases a : tick < 0 ∨ 2000 < tick
  · rw [if_pos a] at h; cases h
  rw [if_neg a] at h
  by_cases b : tick < tk
  · rw [if_pos b] at h; cases h
  rw [if_neg b] at h
  by_cases c : checkF m ≠ 0
  · rw [if_pos c] at h; exact absurd h c
  · simpa using c
theorem callG_cut {P : Program} {f : Nat} {vs : List AVal} {S : AState} {d : Option Nat} {os : List AO} {K : AState → Prop} (Pm : AState → Prop) (h : callG (ACalls P) f vs S d os Pm) (hk : ∀ S', Pm S' → K S') : callG (ACalls P) f vs S d os K := by
  unfold callG at h ⊢
  exact ⟨h.1, ACalls.mono h.2 fun r h' hr hb => aops_mono (CMono_ACalls P) os hk (hr hb)⟩
set_option maxHeartbeats 8000000 in
theorem linked_ok (o q : Own) (fs : List Fault) (puts : List Int) (ticks : Nat) (sF : Sy) (ho : Rdn o fs) (hfl : fs.length ≤ 5864062014805) (hq : Rdo q) (hp : ∀ c ∈ puts, inI64 c) (hpl : puts.length ≤ 1000) (ht : ticks ≤ 2000) (hrun : linkP fs puts ticks = some sF) (h : List HObj) :
    ACalls Try.prog F.gantkeep5_linked [.lst o (faultsA fs), .lst q (ints .i64 puts), .int .i64 ticks] h (fun v _ => ∃ q0 q1 xs0 xs1, Rdo q0 ∧ Rdo q1 ∧ MsgsOk sF.g0 xs0 ∧ MsgsOk sF.g1 xs1 ∧ v = .tup [.agg [.lst q0 xs0, .lst q1 xs1], .agg [.int .i64 sF.e0.wait.length, .int .i64 sF.e1.wait.length], .bool true]) := by
  have ho1 := ho.1
  have hpm : (ints .i64 puts).length = puts.length := List.length_map _
  have dh : ∀ s i j, drV s (.hp i j) = .hp i j := fun _ _ _ => rfl
  have di : ∀ s k n, drV s (.int k n) = .int k n := fun _ _ _ => rfl
  have dl : ∀ s o l, drV s (.lst o l) = .lst o l := fun _ _ _ => rfl
  have da : ∀ s x y, drV s (.agg [.hp x 0, .hp y 0]) = .agg [.hp x 0, .hp y 0] := fun _ _ _ => rfl
  refine ACalls.of_aw Try.func91 K.gantkeep5_linked (by simp [Try.f91]) ?_
  generalize hQ : retQ R.gantkeep5_linked _ = Q
  simp (disch:=first|assumption|omega) only[C.gantkeep5_linked,go_sem,↓reduceIte,Nat.reduceEqDiff,reduceCtorEq,reduceIte]
  refine callG_ok (NetNew_ok o fs ho hfl _) (by simp (disch:=first|assumption|omega) only[go_sem]) ?_
  rintro _ h1 ⟨rfl, ⟨X, hX⟩, hnet⟩
  simp (disch:=first|assumption|omega) only[go_sem] at hX
  simp (disch:=first|assumption|omega) only[go_sem] at hnet
  have hl1 : h1.length = h.length + 1 := by rw [hX]; simp
  simp (disch:=first|assumption|omega) only[go_sem,↓reduceIte,reduceIte]
  clear hX
  generalize hnid : h.length = nid at *
  refine aw_count (fun d S => ∃ i : Nat, i + d = 2 ∧ S.env 25 = .int .i64 i ∧ S.env 1 = .lst q (ints .i64 puts) ∧ S.env 2 = .int .i64 ticks ∧ S.env 11 = .hp nid 0 ∧ S.env 9 = .box 9 0 ∧ S.env 10 = .box 10 0 ∧ S.env 6 = .box 6 0 ∧ S.env 7 = .box 7 0 ∧ S.boxes 10 = some [.lst .nil [], .lst .nil []] ∧ S.boxes 6 = some [.lst .nil [], .lst .nil []] ∧ S.boxes 7 = some [.int .i64 0, .int .i64 0] ∧
      (i = 0 ∧ S.boxes 9 = some [.nilptr, .nilptr] ∧ S.heap = h1 ∨ i = 1 ∧ S.boxes 9 = some [.hp h1.length 0, .nilptr] ∧ (∃ X0, S.heap = h1 ++ [X0]) ∧ EndR S.heap h1.length [] 0 1 lk0 ∨ i = 2 ∧ S.boxes 9 = some [.hp h1.length 0, .hp (h1.length + 1) 0] ∧ (∃ X0 X1, S.heap = h1 ++ [X0, X1]) ∧ EndR S.heap h1.length [] 0 1 lk0 ∧ EndR S.heap (h1.length + 1) [] 1 0 lk0)) (n := 2)
    ⟨0, by omega, by simp (disch:=first|assumption|omega) only[go_sem,↓reduceIte,reduceIte], by simp (disch:=first|assumption|omega) only[go_sem,↓reduceIte,Nat.reduceEqDiff,reduceIte], by simp (disch:=first|assumption|omega) only[go_sem,↓reduceIte,Nat.reduceEqDiff,reduceIte], by simp (disch:=first|assumption|omega) only[go_sem,↓reduceIte,Nat.reduceEqDiff,reduceIte], by simp (disch:=first|assumption|omega) only[go_sem,↓reduceIte,Nat.reduceEqDiff,reduceIte], by simp (disch:=first|assumption|omega) only[go_sem,↓reduceIte,Nat.reduceEqDiff,reduceIte], by simp (disch:=first|assumption|omega) only[go_sem,↓reduceIte,Nat.reduceEqDiff,reduceIte], by simp (disch:=first|assumption|omega) only[go_sem,↓reduceIte,Nat.reduceEqDiff,reduceIte], by simp (disch:=first|assumption|omega) only[go_sem,↓reduceIte,reduceIte], by simp (disch:=first|assumption|omega) only[go_sem,↓reduceIte,Nat.reduceEqDiff,reduceIte], by simp (disch:=first|assumption|omega) only[go_sem,↓reduceIte,Nat.reduceEqDiff,reduceIte], .inl ⟨rfl, by simp (disch:=first|assumption|omega) only[go_sem,↓reduceIte,Nat.reduceEqDiff,reduceIte], by simp (disch:=first|assumption|omega) only[go_sem]⟩⟩ ?_
  rintro d S ⟨i, hi, e25, e1, e2, e11, e9, e10, e6, e7, b10, b6, b7, hc⟩
  have g2 : ((2 : Nat) : Int) = 2 := rfl
  have c11 : ((1 : Nat) : Int) = 1 := rfl
  have c00 : ((0 : Nat) : Int) = 0 := rfl
  have g1 : Int.toNat 1 = 1 := rfl
  rcases hc with ⟨rfl, b9, eh⟩ | ⟨rfl, b9, ⟨X0, eh⟩, he0⟩ | ⟨rfl, b9, ⟨X0, X1, eh⟩, he0, he1⟩
  · simp (disch:=first|assumption|omega) only[e25,go_sem,↓reduceIte,Nat.reduceEqDiff,Nat.reduceLT,reduceIte,Int.reduceLT]
    refine callG_ok (New_ok 0 1 _) (by simp (disch:=first|assumption|omega) only[go_sem]) ?_
    rintro v h2 hv
    rcases hv with ⟨hv, _⟩ | ⟨_, rfl, ob, rfl, hE⟩
    · exfalso; omega
    simp (disch:=first|assumption|omega) only[eh,go_sem] at hE
    simp (disch:=first|assumption|omega) only[e25,e1,e2,e11,e9,e10,e6,e7,b10,b6,b7,b9,g2,fillV,eh,go_sem,↓reduceIte,Nat.reduceEqDiff,Nat.reduceAdd,Nat.reduceLeDiff,Nat.reduceLT,reduceIte,Int.reduceLT,Int.reduceLE,Int.reduceAdd]
    exact ⟨d - 1, by omega, 1, by omega, rfl, .inr (.inl ⟨rfl, ⟨ob, rfl⟩, hE⟩)⟩
  · simp (disch:=first|assumption|omega) only[e25,c11,go_sem,↓reduceIte,Nat.reduceEqDiff,Nat.reduceLT,reduceIte,Int.reduceLT]
    refine callG_ok (New_ok 1 0 _) (by simp (disch:=first|assumption|omega) only[go_sem]) ?_
    rintro v h2 hv
    rcases hv with ⟨hv, _⟩ | ⟨_, rfl, ob, rfl, hE⟩
    · exfalso; omega
    rw [eh] at he0
    simp (disch:=first|assumption|omega) only[eh,List.append_assoc,go_sem] at hE
    simp (disch:=first|assumption|omega) only[e25,e1,e2,e11,e9,e10,e6,e7,b10,b6,b7,b9,g1,g2,fillV,eh,List.append_assoc,c11,go_sem,↓reduceIte,Nat.reduceEqDiff,Nat.reduceAdd,Nat.reduceLeDiff,Nat.reduceLT,reduceIte,Int.reduceLT,Int.reduceLE,Int.reduceAdd,Int.reduceMul,Nat.reduceMul]
    have he0' : EndR (h1 ++ [X0, ob]) h1.length [] 0 1 lk0 := by
      have := he0.frame (S := []) (h' := (h1 ++ [X0]) ++ [ob]) Fr.app (by simp) (by simp)
      simpa using this
    refine ⟨d - 1, by omega, 2, by omega, rfl, .inr (.inr ⟨rfl, ⟨X0, ob, rfl⟩, he0', ?_⟩)⟩
    exact hE
  · simp (disch:=first|assumption|omega) only[e25,e2,g2,go_sem,↓reduceIte,Nat.reduceEqDiff,Nat.reduceLT,reduceIte,Int.reduceLT]
    have hl2 : S.heap.length = nid + 3 := by rw [eh]; simp; omega
    have hnet2 : NetR S.heap nid fs 0 [] := by rw [eh]; exact hnet.frame (S := []) Fr.app (by simp)
    have hT0 : Two S.heap nid h1.length (h1.length + 1) 0 1 fs sy0.net sy0.e0 sy0.e1 := ⟨[], [], [], hnet2, rfl, (fun x hx => by cases hx), he0, he1, by omega, by omega, by omega, (fun x hx => by cases hx), (fun x hx => by cases hx), by omega, by omega, by omega⟩
    obtain ⟨a, ha⟩ : ∃ a, a = h1.length := ⟨_, rfl⟩
    obtain ⟨b, hb⟩ : ∃ b, b = h1.length + 1 := ⟨_, rfl⟩
    rw [← hb] at hT0 b9
    rw [← ha] at hT0 b9
    clear he0 he1 eh hnet hnet2 hl2
    clear hb ha hl1
    have dL : ∀ (S : AState), True := fun _ => trivial
    refine aw_count (fun d S => ∃ (t : Nat) (s : Sy), t + d = ticks ∧ runP fs puts d t s = some sF ∧ S.env 52 = .int .i64 t ∧ LkE q puts ticks nid a b S ∧ Two S.heap nid a b 0 1 fs s.net s.e0 s.e1 ∧ s.e0.ok (3000 * (t : Int)) ∧ s.e1.ok (3000 * (t : Int)) ∧ s.g0.length ≤ 12200000 * t ∧ s.g1.length ≤ 12200000 * t ∧ ∃ gs, S.boxes 10 = some gs ∧ GotsR gs s.g0 s.g1) (n := ticks)
      ⟨0, sy0, by omega, hrun, by simp (disch:=first|assumption|omega) only[go_sem,↓reduceIte,reduceIte], ⟨by simp (disch:=first|assumption|omega) only[e1,go_sem,↓reduceIte,Nat.reduceEqDiff,reduceIte], by simp (disch:=first|assumption|omega) only[e11,go_sem,↓reduceIte,Nat.reduceEqDiff,reduceIte], by simp (disch:=first|assumption|omega) only[e9,go_sem,↓reduceIte,Nat.reduceEqDiff,reduceIte], by simp (disch:=first|assumption|omega) only[e10,go_sem,↓reduceIte,Nat.reduceEqDiff,reduceIte], by simp (disch:=first|assumption|omega) only[e6,go_sem,↓reduceIte,Nat.reduceEqDiff,reduceIte], by simp (disch:=first|assumption|omega) only[e7,go_sem,↓reduceIte,Nat.reduceEqDiff,reduceIte], by simp (disch:=first|assumption|omega) only[go_sem,↓reduceIte,Nat.reduceEqDiff,reduceIte], by simp (disch:=first|assumption|omega) only[b9,go_sem], by simp (disch:=first|assumption|omega) only[b6,go_sem], by simp (disch:=first|assumption|omega) only[b7,go_sem]⟩, by simp (disch:=first|assumption|omega) only[go_sem]; exact hT0, ok_mono lk0_ok (by omega), ok_mono lk0_ok (by omega), by simp [sy0], by simp [sy0], _, by simp (disch:=first|assumption|omega) only[b10,go_sem], .lst .nil [], .lst .nil [], rfl, .inl ⟨rfl, rfl⟩, .inl ⟨rfl, rfl⟩⟩ ?_
    clear e25 e1 e2 e11 e9 e10 e6 e7 b10 b6 b7 b9 hT0 hrun
    rintro d S ⟨t, s, htd, hrun, e52, ⟨e1, e11, e9, e10, e6, e7, e51, b9, b6, b7⟩, hT, ok0, ok1, gl0, gl1, gs, b10, hG⟩
    by_cases hlt : (t : Int) < ticks
    · obtain ⟨d, rfl⟩ : ∃ d', d = d' + 1 := ⟨d - 1, by omega⟩
      unfold runP at hrun
      obtain ⟨s3, hrt, hrr⟩ := Option.bind_eq_some_iff.1 hrun
      unfold tickP at hrt
      obtain ⟨s2, hrt, hr1⟩ := Option.bind_eq_some_iff.1 hrt
      obtain ⟨s1, hr0, hr2⟩ := Option.bind_eq_some_iff.1 hrt
      simp (disch:=first|assumption|omega) only[e52,e1,e51,hlt,hpm,go_sem,↓reduceIte,Nat.reduceEqDiff,reduceIte]
      refine condG_cut (fun S' => LkE q puts ticks nid a b S' ∧ S'.env 52 = .int .i64 t ∧ S'.env 15 = .int .i64 t ∧ Two S'.heap nid a b 0 1 fs s1.net s1.e0 s1.e1 ∧ s1.e0.ok (3000 * (t : Int) + 1) ∧ s1.e1.ok (3000 * (t : Int) + 1) ∧ s1.g0.length ≤ 12200000 * t ∧ s1.g1.length ≤ 12200000 * t ∧ ∃ gs, S'.boxes 10 = some gs ∧ GotsR gs s1.g0 s1.g1) ?_ ?_
      · by_cases htl : t < puts.length
        · have hat := at_putI htl
          have hpx := hp _ (List.getElem_mem htl)
          have hpt : puts[t]? = some puts[t] := List.getElem?_eq_getElem htl
          unfold putP at hr0
          rw [hpt] at hr0
          simp only at hr0
          generalize puts[t] = p at *
          have hw1 : IntKind.i64.wrap (p.tdiv 2) = p.tdiv 2 := by have := tdivI hpx 2 (by omega); unfold inI64 at this; exact wrapI64 (by simpa using this.1) (by have := this.2; simp at this; omega)
          have hw2 : IntKind.i64.wrap (p.tdiv 6) = p.tdiv 6 := by have := tdivI hpx 6 (by omega); unfold inI64 at this; exact wrapI64 (by simpa using this.1) (by have := this.2; simp at this; omega)
          have hp2 : p % 2 = 0 ∨ p % 2 = 1 := by omega
          simp (disch:=first|assumption|omega) only[e1,htl,hat,hpm,go_sem,↓reduceIte,Nat.reduceEqDiff,Nat.reduceLeDiff,Nat.reduceLT,reduceIte,Int.reduceLT]
          refine callG_ok (Below_ok p 2 hpx (by omega) (by omega) _) (by simp (disch:=first|assumption|omega) only[go_sem]) ?_
          rintro _ _ ⟨rfl, hhh⟩
          rw [hhh]
          clear hhh
          rcases hp2 with hp2 | hp2
          · rw [if_pos hp2] at hr0
            split at hr0
            · rename_i hpe
              cases hr0
              obtain ⟨Ms, oe, of, tr⟩ := hT
              simp (disch:=first|assumption|omega) only[e1,e9,b9,htl,hat,hpm,hp2,hw1,hw2,g2,go_sem,↓reduceIte,Nat.reduceEqDiff,Nat.reduceAdd,Nat.reduceLeDiff,Nat.reduceLT,reduceIte,Int.reduceLT,Int.reduceLE,Int.reduceAdd,Int.reduceNe]
              refine callG_ok (Below_ok (p.tdiv 2) 3 (by simpa using tdivI hpx 2 (by omega)) (by omega) (by omega) _) (by simp (disch:=first|assumption|omega) only[go_sem]) ?_
              rintro _ _ ⟨rfl, hhh⟩
              rw [hhh]
              clear hhh
              simp (disch:=first|assumption|omega) only[go_sem,↓reduceIte,Nat.reduceEqDiff,reduceIte]
              refine callG_ok (Below_ok (p.tdiv 6) 9 (by simpa using tdivI hpx 6 (by omega)) (by omega) (by omega) _) (by simp (disch:=first|assumption|omega) only[go_sem]) ?_
              rintro _ _ ⟨rfl, hhh⟩
              rw [hhh]
              clear hhh
              simp (disch:=first|assumption|omega) only[fillV,go_sem,↓reduceIte,Nat.reduceEqDiff,Nat.reduceAdd,Nat.reduceLeDiff,reduceIte,Int.reduceAdd,Int.reduceMul,Nat.reduceMul]
              refine callG_ok (Put_ok a oe 0 1 s.e0 (3000 * (t : Int)) (pKind p) .sh (pCells p t) _ (by simp (disch:=first|assumption|omega) only[go_sem]; exact tr.erm) ok0 (by omega) ⟨.inl rfl, fun e => by cases e⟩ (by simp [pCells, reachBytes])) (by simp (disch:=first|assumption|omega) only[go_sem]) ?_
              rintro _ h2 ⟨rfl, hQE⟩
              simp (disch:=first|assumption|omega) only[go_sem] at hQE
              have hT2 := tr.upd hQE
              simp (disch:=first|assumption|omega) only[e52,b10,hpe,go_sem,↓reduceIte,Nat.reduceEqDiff,reduceIte]
              exact ⟨⟨by simp (disch:=first|assumption|omega) only[e1,go_sem,↓reduceIte,Nat.reduceEqDiff,reduceIte], by simp (disch:=first|assumption|omega) only[e11,go_sem,↓reduceIte,Nat.reduceEqDiff,reduceIte], by simp (disch:=first|assumption|omega) only[e9,go_sem,↓reduceIte,Nat.reduceEqDiff,reduceIte], by simp (disch:=first|assumption|omega) only[e10,go_sem,↓reduceIte,Nat.reduceEqDiff,reduceIte], by simp (disch:=first|assumption|omega) only[e6,go_sem,↓reduceIte,Nat.reduceEqDiff,reduceIte], by simp (disch:=first|assumption|omega) only[e7,go_sem,↓reduceIte,Nat.reduceEqDiff,reduceIte], by simp (disch:=first|assumption|omega) only[e51,go_sem,↓reduceIte,Nat.reduceEqDiff,reduceIte], by simp (disch:=first|assumption|omega) only[b9,go_sem], by simp (disch:=first|assumption|omega) only[b6,go_sem], by simp (disch:=first|assumption|omega) only[b7,go_sem]⟩, hT2, putS_ok ok0, ok_mono ok1 (by omega), gl0, gl1, gs, rfl, hG⟩
            · cases hr0
          · rw [if_neg (by omega)] at hr0
            split at hr0
            · rename_i hpe
              cases hr0
              obtain ⟨Ms, oe, of, tr⟩ := hT
              simp (disch:=first|assumption|omega) only[e1,e9,b9,htl,hat,hpm,hp2,hw1,hw2,g1,g2,go_sem,↓reduceIte,Nat.reduceEqDiff,Nat.reduceAdd,Nat.reduceLeDiff,Nat.reduceLT,reduceIte,Int.reduceLT,Int.reduceLE,Int.reduceAdd,Int.reduceMul,Int.reduceNe,Nat.reduceMul]
              refine callG_ok (Below_ok (p.tdiv 2) 3 (by simpa using tdivI hpx 2 (by omega)) (by omega) (by omega) _) (by simp (disch:=first|assumption|omega) only[go_sem]) ?_
              rintro _ _ ⟨rfl, hhh⟩
              rw [hhh]
              clear hhh
              simp (disch:=first|assumption|omega) only[go_sem,↓reduceIte,Nat.reduceEqDiff,reduceIte]
              refine callG_ok (Below_ok (p.tdiv 6) 9 (by simpa using tdivI hpx 6 (by omega)) (by omega) (by omega) _) (by simp (disch:=first|assumption|omega) only[go_sem]) ?_
              rintro _ _ ⟨rfl, hhh⟩
              rw [hhh]
              clear hhh
              simp (disch:=first|assumption|omega) only[fillV,go_sem,↓reduceIte,Nat.reduceEqDiff,Nat.reduceAdd,Nat.reduceLeDiff,reduceIte,Int.reduceAdd,Int.reduceMul,Nat.reduceMul]
              refine callG_ok (Put_ok b of 1 0 s.e1 (3000 * (t : Int)) (pKind p) .sh (pCells p t) _ (by simp (disch:=first|assumption|omega) only[go_sem]; exact tr.ero) ok1 (by omega) ⟨.inl rfl, fun e => by cases e⟩ (by simp [pCells, reachBytes])) (by simp (disch:=first|assumption|omega) only[go_sem]) ?_
              rintro _ h2 ⟨rfl, hQE⟩
              simp (disch:=first|assumption|omega) only[go_sem] at hQE
              have hT2 := (tr.swap.upd hQE).swap
              simp (disch:=first|assumption|omega) only[e52,b10,hpe,go_sem,↓reduceIte,Nat.reduceEqDiff,reduceIte]
              exact ⟨⟨by simp (disch:=first|assumption|omega) only[e1,go_sem,↓reduceIte,Nat.reduceEqDiff,reduceIte], by simp (disch:=first|assumption|omega) only[e11,go_sem,↓reduceIte,Nat.reduceEqDiff,reduceIte], by simp (disch:=first|assumption|omega) only[e9,go_sem,↓reduceIte,Nat.reduceEqDiff,reduceIte], by simp (disch:=first|assumption|omega) only[e10,go_sem,↓reduceIte,Nat.reduceEqDiff,reduceIte], by simp (disch:=first|assumption|omega) only[e6,go_sem,↓reduceIte,Nat.reduceEqDiff,reduceIte], by simp (disch:=first|assumption|omega) only[e7,go_sem,↓reduceIte,Nat.reduceEqDiff,reduceIte], by simp (disch:=first|assumption|omega) only[e51,go_sem,↓reduceIte,Nat.reduceEqDiff,reduceIte], by simp (disch:=first|assumption|omega) only[b9,go_sem], by simp (disch:=first|assumption|omega) only[b6,go_sem], by simp (disch:=first|assumption|omega) only[b7,go_sem]⟩, hT2, ok_mono ok0 (by omega), putS_ok ok1, gl0, gl1, gs, rfl, hG⟩
            · cases hr0
        · have : puts[t]? = none := List.getElem?_eq_none (by omega)
          unfold putP at hr0
          rw [this] at hr0
          cases hr0
          simp (disch:=first|assumption|omega) only[e52,b10,htl,go_sem,↓reduceIte,Nat.reduceEqDiff,reduceIte]
          exact ⟨⟨by simp (disch:=first|assumption|omega) only[e1,go_sem,↓reduceIte,Nat.reduceEqDiff,reduceIte], by simp (disch:=first|assumption|omega) only[e11,go_sem,↓reduceIte,Nat.reduceEqDiff,reduceIte], by simp (disch:=first|assumption|omega) only[e9,go_sem,↓reduceIte,Nat.reduceEqDiff,reduceIte], by simp (disch:=first|assumption|omega) only[e10,go_sem,↓reduceIte,Nat.reduceEqDiff,reduceIte], by simp (disch:=first|assumption|omega) only[e6,go_sem,↓reduceIte,Nat.reduceEqDiff,reduceIte], by simp (disch:=first|assumption|omega) only[e7,go_sem,↓reduceIte,Nat.reduceEqDiff,reduceIte], by simp (disch:=first|assumption|omega) only[e51,go_sem,↓reduceIte,Nat.reduceEqDiff,reduceIte], by simp (disch:=first|assumption|omega) only[b9,go_sem], by simp (disch:=first|assumption|omega) only[b6,go_sem], by simp (disch:=first|assumption|omega) only[b7,go_sem]⟩, hT, ok_mono ok0 (by omega), ok_mono ok1 (by omega), gl0, gl1, gs, rfl, hG⟩
      · clear e52 e1 e11 e9 e10 e6 e7 e51 b9 b6 b7 b10 hT ok0 ok1 hG gl0 gl1
        rintro S ⟨⟨e1, e11, e9, e10, e6, e7, e51, b9, b6, b7⟩, e52, e15, hT, ok0, ok1, gl0, gl1, gs, b10, hG⟩
        have hrem : (remP fs t 0 s1).bind (runP fs puts d (t + 1)) = some sF := by
          simp only[remP]; rw [hr2, Option.bind_some, hr1, Option.bind_some, hrr]
        have htc : IntKind.u32.wrap (t : Int) = t := wrapU32 (by omega) (by omega)
        have hcl : clampT (t : Int) = t := by unfold clampT; omega
        simp (disch:=first|assumption|omega) only[e9,b9,go_sem,↓reduceIte,Nat.reduceAdd,Nat.reduceLeDiff,reduceIte,Int.reduceAdd]
        refine aw_count (fun d2 S' => ∃ (i : Nat) (s : Sy), i + d2 = 2 ∧ (remP fs t i s).bind (runP fs puts d (t + 1)) = some sF ∧ S'.env 88 = .int .i64 i ∧ S'.env 87 = .agg [.hp a 0, .hp b 0] ∧ LkE q puts ticks nid a b S' ∧ S'.env 52 = .int .i64 t ∧ S'.env 15 = .int .i64 t ∧ Two S'.heap nid a b 0 1 fs s.net s.e0 s.e1 ∧ s.e0.ok (3000 * (t : Int) + 1 + 1010 * (i : Int)) ∧ s.e1.ok (3000 * (t : Int) + 1 + 1010 * (i : Int)) ∧ s.g0.length ≤ 12200000 * t + 6100000 * i ∧ s.g1.length ≤ 12200000 * t + 6100000 * i ∧ ∃ gs, S'.boxes 10 = some gs ∧ GotsR gs s.g0 s.g1) (n := 2)
          ⟨0, s1, by omega, hrem, by simp (disch:=first|assumption|omega) only[go_sem,↓reduceIte,reduceIte], by simp (disch:=first|assumption|omega) only[go_sem,↓reduceIte,Nat.reduceEqDiff,reduceIte], ⟨by simp (disch:=first|assumption|omega) only[e1,go_sem,↓reduceIte,Nat.reduceEqDiff,reduceIte], by simp (disch:=first|assumption|omega) only[e11,go_sem,↓reduceIte,Nat.reduceEqDiff,reduceIte], by simp (disch:=first|assumption|omega) only[e9,go_sem,↓reduceIte,Nat.reduceEqDiff,reduceIte], by simp (disch:=first|assumption|omega) only[e10,go_sem,↓reduceIte,Nat.reduceEqDiff,reduceIte], by simp (disch:=first|assumption|omega) only[e6,go_sem,↓reduceIte,Nat.reduceEqDiff,reduceIte], by simp (disch:=first|assumption|omega) only[e7,go_sem,↓reduceIte,Nat.reduceEqDiff,reduceIte], by simp (disch:=first|assumption|omega) only[e51,go_sem,↓reduceIte,Nat.reduceEqDiff,reduceIte], by simp (disch:=first|assumption|omega) only[b9,go_sem], by simp (disch:=first|assumption|omega) only[b6,go_sem], by simp (disch:=first|assumption|omega) only[b7,go_sem]⟩, by simp (disch:=first|assumption|omega) only[e52,go_sem,↓reduceIte,Nat.reduceEqDiff,reduceIte], by simp (disch:=first|assumption|omega) only[e15,go_sem,↓reduceIte,Nat.reduceEqDiff,reduceIte], by simp (disch:=first|assumption|omega) only[go_sem]; exact hT, ok_mono ok0 (by omega), ok_mono ok1 (by omega), by omega, by omega, gs, by simp (disch:=first|assumption|omega) only[b10,go_sem], hG⟩ ?_
        clear e52 e15 e1 e11 e9 e10 e6 e7 e51 b9 b6 b7 b10 hT ok0 ok1 hG hrem hrr hr1 hr2 hr0 hrt gl0 gl1
        rintro d2 S ⟨i, s, hi, hrem, e88, e87, ⟨e1, e11, e9, e10, e6, e7, e51, b9, b6, b7⟩, e52, e15, hT, ok0, ok1, gl0, gl1, gs, b10, hG⟩
        obtain ⟨s5, hA, hB⟩ := Option.bind_eq_some_iff.1 hrem
        obtain ⟨x0, x1, rfl, hx0, hx1⟩ := hG
        have hi3 : i = 0 ∨ i = 1 ∨ i = 2 := by omega
        rcases hi3 with rfl | rfl | rfl
        · simp only[remP] at hA
          obtain ⟨s4, hC, hD⟩ := Option.bind_eq_some_iff.1 hA
          unfold end0 at hC
          obtain ⟨r, hr, rfl⟩ := Option.map_eq_some_iff.1 hC
          obtain ⟨em1, n', hin, hsend, rfl⟩ := endP_some hr
          obtain ⟨Ms, oe, of, tr⟩ := hT
          simp (disch:=first|assumption|omega) only[e88,e87,e11,e15,c00,g2,go_sem,↓reduceIte,Nat.reduceEqDiff,Nat.reduceAdd,Nat.reduceLT,reduceIte,Int.reduceLT,Int.reduceLE,Int.reduceAdd]
          refine callG_ok (NetTakeRS_ok nid fs s.net.1 t 0 Ms (fun x hx => ⟨(tr.way x hx).1, by have := (tr.way x hx).2.1; omega⟩) _ (by simp (disch:=first|assumption|omega) only[go_sem]; exact tr.nr)) (by simp (disch:=first|assumption|omega) only[go_sem]) ?_
          rintro v h2 ⟨L', hst, hov, hn2, hf2⟩
          simp (disch:=first|assumption|omega) only[go_sem] at hf2
          have htm := takeM_of tr.ms tr.way hst
          have hT2 : Two h2 nid a b 0 1 fs (takeN s.net t 0) s.e0 s.e1 := ⟨_, oe, of, tr.upn (net' := takeN s.net t 0) hn2 (takeN_of tr.ms) (tr.way.filter _) hf2⟩
          have hLi : ∀ x ∈ L', checkF x.2.1 = 0 ∧ (x.1 = false → x.2.1.Cells = []) := fun x hx => (tr.way x (List.mem_filter.1 (hst.perm.mem_iff.1 hx)).1).2.2
          have hLl : L'.length ≤ 1000 := by
            have h1 : Ms.length ≤ 1000 := by obtain ⟨_, _, _, _, _, h⟩ := tr.nr; exact h
            rw [hst.perm.length_eq]; exact Nat.le_trans (List.length_filter_le _ _) h1
          have hlo : (L'.map outA).length = L'.length := List.length_map _
          rw [← htm] at hin
          obtain ⟨ov, rfl, hov3⟩ := hov.cases
          have hrv : ∃ q3, rdv (.lst ov (L'.map outA)) = .lst q3 (L'.map outA) ∧ Rdo q3 := by
            rcases hov3 with rfl | rfl
            · exact ⟨.nil, rfl, .inr rfl⟩
            · exact ⟨.sh, rfl, .inl rfl⟩
          obtain ⟨q3, hrv, hq3⟩ := hrv
          clear hst hov3 hn2 hf2 htm tr
          clear Ms oe of
          simp (disch:=first|assumption|omega) only[hlo,hrv,go_sem,↓reduceIte,reduceIte]
          refine aw_count (fun d3 S' => ∃ (k : Nat) (em : Lk), k + d3 = L'.length ∧ inAll 0 1 em ((L'.drop k).map (·.2.1)) = some em1 ∧ S'.env 97 = .int .i64 k ∧ S'.env 96 = .int .i64 L'.length ∧ S'.env 95 = .lst ov (L'.map outA) ∧ S'.env 18 = .hp a 0 ∧ S'.env 17 = .int .i64 0 ∧ S'.env 88 = .int .i64 0 ∧ S'.env 87 = .agg [.hp a 0, .hp b 0] ∧ LkE q puts ticks nid a b S' ∧ S'.env 52 = .int .i64 t ∧ S'.env 15 = .int .i64 t ∧ Two S'.heap nid a b 0 1 fs (takeN s.net t 0) em s.e1 ∧ em.ok (3000 * (t : Int) + 1 + 1010 * 0 + k) ∧ S'.boxes 10 = some [x0, x1]) (n := L'.length)
            ⟨0, s.e0, by omega, hin, by simp (disch:=first|assumption|omega) only[go_sem,↓reduceIte,reduceIte], by simp (disch:=first|assumption|omega) only[go_sem,↓reduceIte,Nat.reduceEqDiff,reduceIte], by simp (disch:=first|assumption|omega) only[go_sem,↓reduceIte,Nat.reduceEqDiff,reduceIte], by simp (disch:=first|assumption|omega) only[go_sem,↓reduceIte,Nat.reduceEqDiff,reduceIte], by simp (disch:=first|assumption|omega) only[go_sem,↓reduceIte,Nat.reduceEqDiff,reduceIte], by simp (disch:=first|assumption|omega) only[e88,c00,go_sem,↓reduceIte,Nat.reduceEqDiff,reduceIte], by simp (disch:=first|assumption|omega) only[e87,go_sem,↓reduceIte,Nat.reduceEqDiff,reduceIte], ⟨by simp (disch:=first|assumption|omega) only[e1,go_sem,↓reduceIte,Nat.reduceEqDiff,reduceIte], by simp (disch:=first|assumption|omega) only[e11,go_sem,↓reduceIte,Nat.reduceEqDiff,reduceIte], by simp (disch:=first|assumption|omega) only[e9,go_sem,↓reduceIte,Nat.reduceEqDiff,reduceIte], by simp (disch:=first|assumption|omega) only[e10,go_sem,↓reduceIte,Nat.reduceEqDiff,reduceIte], by simp (disch:=first|assumption|omega) only[e6,go_sem,↓reduceIte,Nat.reduceEqDiff,reduceIte], by simp (disch:=first|assumption|omega) only[e7,go_sem,↓reduceIte,Nat.reduceEqDiff,reduceIte], by simp (disch:=first|assumption|omega) only[e51,go_sem,↓reduceIte,Nat.reduceEqDiff,reduceIte], by simp (disch:=first|assumption|omega) only[b9,go_sem], by simp (disch:=first|assumption|omega) only[b6,go_sem], by simp (disch:=first|assumption|omega) only[b7,go_sem]⟩, by simp (disch:=first|assumption|omega) only[e52,go_sem,↓reduceIte,Nat.reduceEqDiff,reduceIte], by simp (disch:=first|assumption|omega) only[e15,go_sem,↓reduceIte,Nat.reduceEqDiff,reduceIte], by simp (disch:=first|assumption|omega) only[go_sem]; exact hT2, ok_mono ok0 (by omega), by simp (disch:=first|assumption|omega) only[b10,go_sem]⟩ ?_
          clear e88 e87 e1 e11 e9 e10 e6 e7 e51 b9 b6 b7 e52 e15 b10 hT2 hin ok0
          rintro d3 S3 ⟨k, em, hk, hin, e97, e96, e95, e18, e17, e88, e87, ⟨e1, e11, e9, e10, e6, e7, e51, b9, b6, b7⟩, e52, e15, hT2, okm, b10⟩
          by_cases hlt2 : (k : Int) < L'.length
          · have hk1 : k < L'.length := by omega
            have hat := at_outF hk1
            have hdk : L'.drop k = L'[k] :: L'.drop (k + 1) := List.drop_eq_getElem_cons hk1
            have hxi := hLi _ (List.getElem_mem hk1)
            rw [hdk, List.map_cons] at hin
            obtain ⟨hie, hin2⟩ := inAll_cons hin
            generalize L'[k] = x at *
            have hob := ownB_rdo x.1
            have hcl2 := checkF_len hxi.1
            simp only[msgA,msgC] at hat
            obtain ⟨Ms, oe, of, tr⟩ := hT2
            simp (disch:=first|assumption|omega) only[e97,e96,e95,e18,hlt2,hat,hrv,hlo,fillV,go_sem,↓reduceIte,Nat.reduceEqDiff,Nat.reduceAdd,Nat.reduceLeDiff,reduceIte,Int.reduceAdd,Int.reduceMul,Nat.reduceMul]
            refine callG_ok (In_ok a oe 0 1 em (3000 * (t : Int) + 1 + 1010 * 0 + k) (ownB x.1) x.2.1 _ (by simp (disch:=first|assumption|omega) only[go_sem]; exact tr.erm) okm (by omega) ⟨hob, fun e => hxi.2 (by cases hb : x.1; rfl; rw [hb] at e; cases e)⟩ (by omega)) (by simp (disch:=first|assumption|omega) only[go_sem]) ?_
            rintro _ h3 ⟨rfl, hQE⟩
            simp (disch:=first|assumption|omega) only[go_sem] at hQE
            have hT3 := tr.upd hQE
            simp (disch:=first|assumption|omega) only[e97,e96,e95,e18,e17,e88,e87,e52,e15,b10,hie,go_sem,↓reduceIte,Nat.reduceEqDiff,reduceIte]
            exact ⟨d3 - 1, by omega, k + 1, inS em 0 1 x.2.1, by omega, hin2, by simp, ⟨by simp (disch:=first|assumption|omega) only[e1,go_sem,↓reduceIte,Nat.reduceEqDiff,reduceIte], by simp (disch:=first|assumption|omega) only[e11,go_sem,↓reduceIte,Nat.reduceEqDiff,reduceIte], by simp (disch:=first|assumption|omega) only[e9,go_sem,↓reduceIte,Nat.reduceEqDiff,reduceIte], by simp (disch:=first|assumption|omega) only[e10,go_sem,↓reduceIte,Nat.reduceEqDiff,reduceIte], by simp (disch:=first|assumption|omega) only[e6,go_sem,↓reduceIte,Nat.reduceEqDiff,reduceIte], by simp (disch:=first|assumption|omega) only[e7,go_sem,↓reduceIte,Nat.reduceEqDiff,reduceIte], by simp (disch:=first|assumption|omega) only[e51,go_sem,↓reduceIte,Nat.reduceEqDiff,reduceIte], by simp (disch:=first|assumption|omega) only[b9,go_sem,↓reduceIte,Nat.reduceEqDiff,reduceIte], by simp (disch:=first|assumption|omega) only[b6,go_sem,↓reduceIte,Nat.reduceEqDiff,reduceIte], by simp (disch:=first|assumption|omega) only[b7,go_sem,↓reduceIte,Nat.reduceEqDiff,reduceIte]⟩, hT3, ok_mono (inS_ok okm) (by omega)⟩
          · obtain rfl : k = L'.length := by omega
            rw [List.drop_length] at hin
            obtain rfl : em = em1 := Option.some.inj hin
            obtain ⟨Ms, oe, of, tr⟩ := hT2
            obtain ⟨go, gx, rfl, hgx, hgo⟩ := hx0.cases
            simp (disch:=first|assumption|omega) only[e97,e96,e18,e17,e10,b10,hlt2,g2,go_sem,↓reduceIte,Nat.reduceEqDiff,Nat.reduceAdd,Nat.reduceLT,reduceIte,Int.reduceLT,Int.reduceLE,Int.reduceAdd,Int.reduceMul,Nat.reduceMul]
            have hgl := okm.got
            refine callG_cut (fun S' => S'.env 18 = .hp a 0 ∧ S'.env 17 = .int .i64 0 ∧ S'.env 88 = .int .i64 0 ∧ S'.env 87 = .agg [.hp a 0, .hp b 0] ∧ LkE q puts ticks nid a b S' ∧ S'.env 52 = .int .i64 t ∧ S'.env 15 = .int .i64 t ∧ Two S'.heap nid a b 0 1 fs (takeN s.net t 0) (emptied em) s.e1 ∧ ∃ gs, S'.boxes 10 = some gs ∧ GotsR gs (s.g0 ++ em.got) (s.g1)) ?_ ?_
            · refine callG_ok (Take_ok a oe 0 1 em _ (by simp (disch:=first|assumption|omega) only[go_sem]; exact tr.erm)) (by simp (disch:=first|assumption|omega) only[go_sem]) ?_
              rintro v h3 ⟨hgv, hQE⟩
              simp (disch:=first|assumption|omega) only[go_sem] at hQE
              have hT3 := tr.upd hQE
              have hgxl := hgx.length
              rcases hgo with ⟨rfl, rfl⟩ | rfl <;> rcases hgv with ⟨rfl, hg0⟩ | ⟨zs, rfl, hzs⟩
              · have hz : MsgsOk em.got [] := by rw [hg0]; rfl
                simp (disch:=first|assumption|omega) only[e18,e17,e88,e87,e10,e52,e15,fillV,g2,go_sem,↓reduceIte,Nat.reduceEqDiff,Nat.reduceAdd,Nat.reduceLeDiff,Nat.reduceLT,reduceIte,Int.reduceLT,Int.reduceLE,Int.reduceAdd]
                exact ⟨⟨by simp (disch:=first|assumption|omega) only[e1,go_sem,↓reduceIte,Nat.reduceEqDiff,reduceIte], by simp (disch:=first|assumption|omega) only[e11,go_sem,↓reduceIte,Nat.reduceEqDiff,reduceIte], by simp (disch:=first|assumption|omega) only[e9,go_sem,↓reduceIte,Nat.reduceEqDiff,reduceIte], by simp (disch:=first|assumption|omega) only[e10,go_sem,↓reduceIte,Nat.reduceEqDiff,reduceIte], by simp (disch:=first|assumption|omega) only[e6,go_sem,↓reduceIte,Nat.reduceEqDiff,reduceIte], by simp (disch:=first|assumption|omega) only[e7,go_sem,↓reduceIte,Nat.reduceEqDiff,reduceIte], by simp (disch:=first|assumption|omega) only[e51,go_sem,↓reduceIte,Nat.reduceEqDiff,reduceIte], by simp (disch:=first|assumption|omega) only[b9,go_sem,↓reduceIte,Nat.reduceEqDiff,reduceIte], by simp (disch:=first|assumption|omega) only[b6,go_sem,↓reduceIte,Nat.reduceEqDiff,reduceIte], by simp (disch:=first|assumption|omega) only[b7,go_sem,↓reduceIte,Nat.reduceEqDiff,reduceIte]⟩, hT3, _, rfl, _, _, rfl, .inr ⟨_, rfl, hgx.app hz⟩, hx1⟩
              · have hz := hzs
                have hzw := hzs.width
                have hzl := hzs.length
                simp (disch:=first|assumption|omega) only[e18,e17,e88,e87,e10,e52,e15,fillV,g2,go_sem,↓reduceIte,Nat.reduceEqDiff,Nat.reduceAdd,Nat.reduceLeDiff,Nat.reduceLT,reduceIte,Int.reduceLT,Int.reduceLE,Int.reduceAdd]
                exact ⟨hzw, by omega, by omega, ⟨by simp (disch:=first|assumption|omega) only[e1,go_sem,↓reduceIte,Nat.reduceEqDiff,reduceIte], by simp (disch:=first|assumption|omega) only[e11,go_sem,↓reduceIte,Nat.reduceEqDiff,reduceIte], by simp (disch:=first|assumption|omega) only[e9,go_sem,↓reduceIte,Nat.reduceEqDiff,reduceIte], by simp (disch:=first|assumption|omega) only[e10,go_sem,↓reduceIte,Nat.reduceEqDiff,reduceIte], by simp (disch:=first|assumption|omega) only[e6,go_sem,↓reduceIte,Nat.reduceEqDiff,reduceIte], by simp (disch:=first|assumption|omega) only[e7,go_sem,↓reduceIte,Nat.reduceEqDiff,reduceIte], by simp (disch:=first|assumption|omega) only[e51,go_sem,↓reduceIte,Nat.reduceEqDiff,reduceIte], by simp (disch:=first|assumption|omega) only[b9,go_sem,↓reduceIte,Nat.reduceEqDiff,reduceIte], by simp (disch:=first|assumption|omega) only[b6,go_sem,↓reduceIte,Nat.reduceEqDiff,reduceIte], by simp (disch:=first|assumption|omega) only[b7,go_sem,↓reduceIte,Nat.reduceEqDiff,reduceIte]⟩, hT3, _, rfl, _, _, rfl, .inr ⟨_, rfl, hgx.app hz⟩, hx1⟩
              · have hz : MsgsOk em.got [] := by rw [hg0]; rfl
                simp (disch:=first|assumption|omega) only[e18,e17,e88,e87,e10,e52,e15,fillV,g2,go_sem,↓reduceIte,Nat.reduceEqDiff,Nat.reduceAdd,Nat.reduceLeDiff,Nat.reduceLT,reduceIte,Int.reduceLT,Int.reduceLE,Int.reduceAdd]
                have hgz : MsgsOk (s.g0 ++ em.got) gx := by simpa using hgx.app hz
                exact ⟨by omega, by omega, ⟨by simp (disch:=first|assumption|omega) only[e1,go_sem,↓reduceIte,Nat.reduceEqDiff,reduceIte], by simp (disch:=first|assumption|omega) only[e11,go_sem,↓reduceIte,Nat.reduceEqDiff,reduceIte], by simp (disch:=first|assumption|omega) only[e9,go_sem,↓reduceIte,Nat.reduceEqDiff,reduceIte], by simp (disch:=first|assumption|omega) only[e10,go_sem,↓reduceIte,Nat.reduceEqDiff,reduceIte], by simp (disch:=first|assumption|omega) only[e6,go_sem,↓reduceIte,Nat.reduceEqDiff,reduceIte], by simp (disch:=first|assumption|omega) only[e7,go_sem,↓reduceIte,Nat.reduceEqDiff,reduceIte], by simp (disch:=first|assumption|omega) only[e51,go_sem,↓reduceIte,Nat.reduceEqDiff,reduceIte], by simp (disch:=first|assumption|omega) only[b9,go_sem,↓reduceIte,Nat.reduceEqDiff,reduceIte], by simp (disch:=first|assumption|omega) only[b6,go_sem,↓reduceIte,Nat.reduceEqDiff,reduceIte], by simp (disch:=first|assumption|omega) only[b7,go_sem,↓reduceIte,Nat.reduceEqDiff,reduceIte]⟩, hT3, _, rfl, _, _, rfl, .inr ⟨_, rfl, hgz⟩, hx1⟩
              · have hz := hzs
                have hzw := hzs.width
                have hzl := hzs.length
                simp (disch:=first|assumption|omega) only[e18,e17,e88,e87,e10,e52,e15,fillV,g2,go_sem,↓reduceIte,Nat.reduceEqDiff,Nat.reduceAdd,Nat.reduceLeDiff,Nat.reduceLT,reduceIte,Int.reduceLT,Int.reduceLE,Int.reduceAdd]
                exact ⟨hzw, by omega, by omega, ⟨by simp (disch:=first|assumption|omega) only[e1,go_sem,↓reduceIte,Nat.reduceEqDiff,reduceIte], by simp (disch:=first|assumption|omega) only[e11,go_sem,↓reduceIte,Nat.reduceEqDiff,reduceIte], by simp (disch:=first|assumption|omega) only[e9,go_sem,↓reduceIte,Nat.reduceEqDiff,reduceIte], by simp (disch:=first|assumption|omega) only[e10,go_sem,↓reduceIte,Nat.reduceEqDiff,reduceIte], by simp (disch:=first|assumption|omega) only[e6,go_sem,↓reduceIte,Nat.reduceEqDiff,reduceIte], by simp (disch:=first|assumption|omega) only[e7,go_sem,↓reduceIte,Nat.reduceEqDiff,reduceIte], by simp (disch:=first|assumption|omega) only[e51,go_sem,↓reduceIte,Nat.reduceEqDiff,reduceIte], by simp (disch:=first|assumption|omega) only[b9,go_sem,↓reduceIte,Nat.reduceEqDiff,reduceIte], by simp (disch:=first|assumption|omega) only[b6,go_sem,↓reduceIte,Nat.reduceEqDiff,reduceIte], by simp (disch:=first|assumption|omega) only[b7,go_sem,↓reduceIte,Nat.reduceEqDiff,reduceIte]⟩, hT3, _, rfl, _, _, rfl, .inr ⟨_, rfl, hgx.app hz⟩, hx1⟩
            · clear e97 e96 e95 e18 e17 e88 e87 e1 e11 e9 e10 e6 e7 e51 b9 b6 b7 e52 e15 b10 tr
              clear Ms oe of
              rintro S4 ⟨e18, e17, e88, e87, ⟨e1, e11, e9, e10, e6, e7, e51, b9, b6, b7⟩, e52, e15, ⟨Ms, oe, of, tr⟩, gs, b10, hG⟩
              simp (disch:=first|assumption|omega) only[e18,e15,htc,go_sem,↓reduceIte,Nat.reduceEqDiff,reduceIte]
              refine callG_ok (Out_ok a oe 0 1 (emptied em) (3000 * (t : Int) + 1 + 1010 * 0 + L'.length + 1) t t _ (by simp (disch:=first|assumption|omega) only[go_sem]; exact tr.erm) (takeS_ok okm) (by omega)) (by simp (disch:=first|assumption|omega) only[go_sem]) ?_
              rintro v h4 ⟨hgv, hQE⟩
              simp (disch:=first|assumption|omega) only[go_sem] at hQE
              rw [hcl] at hgv hQE
              have hT4 := tr.upd hQE
              have okq : (outS (emptied em) t).ok (3000 * (t : Int) + 1 + 1010 * 0 + L'.length + 1 + 1) := outS_ok (takeS_ok okm) (by omega)
              obtain ⟨outs, hoe⟩ : ∃ outs, outs = outL (emptied em) 0 1 t t := ⟨_, rfl⟩
              rw [← hoe] at hgv
              have hol : outs.length ≤ 9 := by rw [hoe]; exact outL_len _ _ _ _ _
              have hsend : sendAll fs t (takeN s.net t 0) outs = some n' := by rw [hoe]; exact hsend
              obtain ⟨wo, ws, rfl, hws, hwo⟩ := hgv.cases
              have hrvw : ∃ q4, rdv (.lst wo ws) = .lst q4 ws ∧ Rdo q4 := by
                rcases hwo with ⟨rfl, _⟩ | rfl
                · exact ⟨.nil, rfl, .inr rfl⟩
                · exact ⟨.sh, rfl, .inl rfl⟩
              obtain ⟨q4, hrvw, hq4⟩ := hrvw
              have hwl := hws.length
              simp (disch:=first|assumption|omega) only[hrvw,hwl,go_sem,↓reduceIte,reduceIte]
              refine aw_count (fun d5 S' => ∃ (k : Nat) (net1 : NetP), k + d5 = outs.length ∧ sendAll fs t net1 (outs.drop k) = some n' ∧ S'.env 122 = .int .i64 k ∧ S'.env 121 = .int .i64 outs.length ∧ S'.env 120 = .lst wo ws ∧ S'.env 88 = .int .i64 0 ∧ S'.env 87 = .agg [.hp a 0, .hp b 0] ∧ LkE q puts ticks nid a b S' ∧ S'.env 52 = .int .i64 t ∧ S'.env 15 = .int .i64 t ∧ Two S'.heap nid a b 0 1 fs net1 (outS (emptied em) t) s.e1 ∧ S'.boxes 10 = some gs) (n := outs.length)
                ⟨0, takeN s.net t 0, by omega, hsend, by simp (disch:=first|assumption|omega) only[go_sem,↓reduceIte,reduceIte], by simp (disch:=first|assumption|omega) only[go_sem,↓reduceIte,Nat.reduceEqDiff,reduceIte], by simp (disch:=first|assumption|omega) only[go_sem,↓reduceIte,Nat.reduceEqDiff,reduceIte], by simp (disch:=first|assumption|omega) only[e88,go_sem,↓reduceIte,Nat.reduceEqDiff,reduceIte], by simp (disch:=first|assumption|omega) only[e87,go_sem,↓reduceIte,Nat.reduceEqDiff,reduceIte], ⟨by simp (disch:=first|assumption|omega) only[e1,go_sem,↓reduceIte,Nat.reduceEqDiff,reduceIte], by simp (disch:=first|assumption|omega) only[e11,go_sem,↓reduceIte,Nat.reduceEqDiff,reduceIte], by simp (disch:=first|assumption|omega) only[e9,go_sem,↓reduceIte,Nat.reduceEqDiff,reduceIte], by simp (disch:=first|assumption|omega) only[e10,go_sem,↓reduceIte,Nat.reduceEqDiff,reduceIte], by simp (disch:=first|assumption|omega) only[e6,go_sem,↓reduceIte,Nat.reduceEqDiff,reduceIte], by simp (disch:=first|assumption|omega) only[e7,go_sem,↓reduceIte,Nat.reduceEqDiff,reduceIte], by simp (disch:=first|assumption|omega) only[e51,go_sem,↓reduceIte,Nat.reduceEqDiff,reduceIte], by simp (disch:=first|assumption|omega) only[b9,go_sem], by simp (disch:=first|assumption|omega) only[b6,go_sem], by simp (disch:=first|assumption|omega) only[b7,go_sem]⟩, by simp (disch:=first|assumption|omega) only[e52,go_sem,↓reduceIte,Nat.reduceEqDiff,reduceIte], by simp (disch:=first|assumption|omega) only[e15,go_sem,↓reduceIte,Nat.reduceEqDiff,reduceIte], by simp (disch:=first|assumption|omega) only[go_sem]; exact hT4, by simp (disch:=first|assumption|omega) only[b10,go_sem]⟩ ?_
              clear e18 e17 e88 e87 e1 e11 e9 e10 e6 e7 e51 b9 b6 b7 e52 e15 b10 hT4 hsend tr hQE
              clear Ms oe of
              rintro d5 S5 ⟨k, net1, hk5, hsend, e122, e121, e120, e88, e87, ⟨e1, e11, e9, e10, e6, e7, e51, b9, b6, b7⟩, e52, e15, ⟨Ms, oe, of, tr⟩, b10⟩
              by_cases hlt5 : (k : Int) < outs.length
              · have hk6 : k < outs.length := by omega
                obtain ⟨om, hom, homl, hat⟩ := hws.at k hk6
                have hdk : outs.drop k = outs[k] :: outs.drop (k + 1) := List.drop_eq_getElem_cons hk6
                rw [hdk] at hsend
                obtain ⟨hse, hs2⟩ := sendAll_cons hsend
                generalize outs[k] = m at *
                simp only[msgA,msgC] at hat
                have hnl : net1.2.length = Ms.length := by rw [← tr.ms, List.length_map]
                rw [hnl] at hse
                have hbd := sendP_bd fs t m.From
                have hom1 := hom.1
                simp (disch:=first|assumption|omega) only[e122,e121,e120,e11,e15,hlt5,hat,hrvw,hwl,fillV,go_sem,↓reduceIte,Nat.reduceEqDiff,Nat.reduceAdd,Nat.reduceLeDiff,reduceIte,Int.reduceAdd]
                refine callG_ok (NetSend_ok nid fs net1.1 t Ms om m hom homl hfl _ (by simp (disch:=first|assumption|omega) only[go_sem]; exact tr.nr)) (by simp (disch:=first|assumption|omega) only[go_sem]) ?_
                rintro _ h6 ⟨rfl, _, hS2⟩
                obtain ⟨hf6, Ns, hNs, hNb, hn6⟩ := hS2 hse
                simp (disch:=first|assumption|omega) only[go_sem] at hf6
                have hT6 : Two h6 nid a b 0 1 fs (t, net1.2 ++ copies fs t m) (outS (emptied em) t) s.e1 := ⟨Ms ++ Ns, oe, of, tr.upn (net' := (t, net1.2 ++ copies fs t m)) hn6 (by rw [List.map_append, tr.ms, hNs]; rfl) (tr.way.app (way_of2 hNs (by omega) (sendE_fine hse) hNb)) hf6⟩
                simp (disch:=first|assumption|omega) only[e122,e121,e120,e88,e87,e52,e15,b10,hse,go_sem,↓reduceIte,Nat.reduceEqDiff,reduceIte]
                exact ⟨d5 - 1, by omega, k + 1, _, by omega, hs2, by simp, ⟨by simp (disch:=first|assumption|omega) only[e1,go_sem,↓reduceIte,Nat.reduceEqDiff,reduceIte], by simp (disch:=first|assumption|omega) only[e11,go_sem,↓reduceIte,Nat.reduceEqDiff,reduceIte], by simp (disch:=first|assumption|omega) only[e9,go_sem,↓reduceIte,Nat.reduceEqDiff,reduceIte], by simp (disch:=first|assumption|omega) only[e10,go_sem,↓reduceIte,Nat.reduceEqDiff,reduceIte], by simp (disch:=first|assumption|omega) only[e6,go_sem,↓reduceIte,Nat.reduceEqDiff,reduceIte], by simp (disch:=first|assumption|omega) only[e7,go_sem,↓reduceIte,Nat.reduceEqDiff,reduceIte], by simp (disch:=first|assumption|omega) only[e51,go_sem,↓reduceIte,Nat.reduceEqDiff,reduceIte], by simp (disch:=first|assumption|omega) only[b9,go_sem,↓reduceIte,Nat.reduceEqDiff,reduceIte], by simp (disch:=first|assumption|omega) only[b6,go_sem,↓reduceIte,Nat.reduceEqDiff,reduceIte], by simp (disch:=first|assumption|omega) only[b7,go_sem,↓reduceIte,Nat.reduceEqDiff,reduceIte]⟩, hT6⟩
              · obtain rfl : k = outs.length := by omega
                rw [List.drop_length] at hsend
                obtain rfl : net1 = n' := Option.some.inj hsend
                have hT7 : Two S5.heap nid a b 0 1 fs net1 (outS (emptied em) t) s.e1 := ⟨Ms, oe, of, tr⟩
                simp (disch:=first|assumption|omega) only[e122,e121,e88,e87,e52,e15,b10,hlt5,go_sem,↓reduceIte,Nat.reduceEqDiff,reduceIte]
                exact ⟨d2 - 1, by omega, 0 + 1, { s with e0 := outS (emptied em) t, net := net1, g0 := s.g0 ++ em.got }, by omega, (by simp only[remP]; exact Option.bind_eq_some_iff.2 ⟨s5, hD, hB⟩), by rfl, ⟨by simp (disch:=first|assumption|omega) only[e1,go_sem,↓reduceIte,Nat.reduceEqDiff,reduceIte], by simp (disch:=first|assumption|omega) only[e11,go_sem,↓reduceIte,Nat.reduceEqDiff,reduceIte], by simp (disch:=first|assumption|omega) only[e9,go_sem,↓reduceIte,Nat.reduceEqDiff,reduceIte], by simp (disch:=first|assumption|omega) only[e10,go_sem,↓reduceIte,Nat.reduceEqDiff,reduceIte], by simp (disch:=first|assumption|omega) only[e6,go_sem,↓reduceIte,Nat.reduceEqDiff,reduceIte], by simp (disch:=first|assumption|omega) only[e7,go_sem,↓reduceIte,Nat.reduceEqDiff,reduceIte], by simp (disch:=first|assumption|omega) only[e51,go_sem,↓reduceIte,Nat.reduceEqDiff,reduceIte], by simp (disch:=first|assumption|omega) only[b9,go_sem], by simp (disch:=first|assumption|omega) only[b6,go_sem], by simp (disch:=first|assumption|omega) only[b7,go_sem]⟩, hT7, ok_mono okq (by omega), ok_mono ok1 (by omega), by simp only[List.length_append]; omega, by simp only; omega, _, rfl, hG⟩
        · simp only[remP] at hA
          unfold end1 at hA
          obtain ⟨r, hr, rfl⟩ := Option.map_eq_some_iff.1 hA
          obtain ⟨em1, n', hin, hsend, rfl⟩ := endP_some hr
          obtain ⟨Ms, oe, of, tr⟩ := hT.swap
          simp (disch:=first|assumption|omega) only[e88,e87,e11,e15,c11,g1,g2,go_sem,↓reduceIte,Nat.reduceEqDiff,Nat.reduceAdd,Nat.reduceLT,reduceIte,Int.reduceLT,Int.reduceLE,Int.reduceAdd,Int.reduceMul,Nat.reduceMul]
          refine callG_ok (NetTakeRS_ok nid fs s.net.1 t 1 Ms (fun x hx => ⟨(tr.way x hx).1, by have := (tr.way x hx).2.1; omega⟩) _ (by simp (disch:=first|assumption|omega) only[go_sem]; exact tr.nr)) (by simp (disch:=first|assumption|omega) only[go_sem]) ?_
          rintro v h2 ⟨L', hst, hov, hn2, hf2⟩
          simp (disch:=first|assumption|omega) only[go_sem] at hf2
          have htm := takeM_of tr.ms tr.way hst
          have hT2 : Two h2 nid b a 1 0 fs (takeN s.net t 1) s.e1 s.e0 := ⟨_, oe, of, tr.upn (net' := takeN s.net t 1) hn2 (takeN_of tr.ms) (tr.way.filter _) hf2⟩
          have hLi : ∀ x ∈ L', checkF x.2.1 = 0 ∧ (x.1 = false → x.2.1.Cells = []) := fun x hx => (tr.way x (List.mem_filter.1 (hst.perm.mem_iff.1 hx)).1).2.2
          have hLl : L'.length ≤ 1000 := by
            have h1 : Ms.length ≤ 1000 := by obtain ⟨_, _, _, _, _, h⟩ := tr.nr; exact h
            rw [hst.perm.length_eq]; exact Nat.le_trans (List.length_filter_le _ _) h1
          have hlo : (L'.map outA).length = L'.length := List.length_map _
          rw [← htm] at hin
          obtain ⟨ov, rfl, hov3⟩ := hov.cases
          have hrv : ∃ q3, rdv (.lst ov (L'.map outA)) = .lst q3 (L'.map outA) ∧ Rdo q3 := by
            rcases hov3 with rfl | rfl
            · exact ⟨.nil, rfl, .inr rfl⟩
            · exact ⟨.sh, rfl, .inl rfl⟩
          obtain ⟨q3, hrv, hq3⟩ := hrv
          clear hst hov3 hn2 hf2 htm tr
          clear Ms oe of
          simp (disch:=first|assumption|omega) only[hlo,hrv,go_sem,↓reduceIte,reduceIte]
          refine aw_count (fun d3 S' => ∃ (k : Nat) (em : Lk), k + d3 = L'.length ∧ inAll 1 0 em ((L'.drop k).map (·.2.1)) = some em1 ∧ S'.env 97 = .int .i64 k ∧ S'.env 96 = .int .i64 L'.length ∧ S'.env 95 = .lst ov (L'.map outA) ∧ S'.env 18 = .hp b 0 ∧ S'.env 17 = .int .i64 1 ∧ S'.env 88 = .int .i64 1 ∧ S'.env 87 = .agg [.hp a 0, .hp b 0] ∧ LkE q puts ticks nid a b S' ∧ S'.env 52 = .int .i64 t ∧ S'.env 15 = .int .i64 t ∧ Two S'.heap nid b a 1 0 fs (takeN s.net t 1) em s.e0 ∧ em.ok (3000 * (t : Int) + 1 + 1010 * 1 + k) ∧ S'.boxes 10 = some [x0, x1]) (n := L'.length)
            ⟨0, s.e1, by omega, hin, by simp (disch:=first|assumption|omega) only[go_sem,↓reduceIte,reduceIte], by simp (disch:=first|assumption|omega) only[go_sem,↓reduceIte,Nat.reduceEqDiff,reduceIte], by simp (disch:=first|assumption|omega) only[go_sem,↓reduceIte,Nat.reduceEqDiff,reduceIte], by simp (disch:=first|assumption|omega) only[go_sem,↓reduceIte,Nat.reduceEqDiff,reduceIte], by simp (disch:=first|assumption|omega) only[go_sem,↓reduceIte,Nat.reduceEqDiff,reduceIte], by simp (disch:=first|assumption|omega) only[e88,c11,go_sem,↓reduceIte,Nat.reduceEqDiff,reduceIte], by simp (disch:=first|assumption|omega) only[e87,go_sem,↓reduceIte,Nat.reduceEqDiff,reduceIte], ⟨by simp (disch:=first|assumption|omega) only[e1,go_sem,↓reduceIte,Nat.reduceEqDiff,reduceIte], by simp (disch:=first|assumption|omega) only[e11,go_sem,↓reduceIte,Nat.reduceEqDiff,reduceIte], by simp (disch:=first|assumption|omega) only[e9,go_sem,↓reduceIte,Nat.reduceEqDiff,reduceIte], by simp (disch:=first|assumption|omega) only[e10,go_sem,↓reduceIte,Nat.reduceEqDiff,reduceIte], by simp (disch:=first|assumption|omega) only[e6,go_sem,↓reduceIte,Nat.reduceEqDiff,reduceIte], by simp (disch:=first|assumption|omega) only[e7,go_sem,↓reduceIte,Nat.reduceEqDiff,reduceIte], by simp (disch:=first|assumption|omega) only[e51,go_sem,↓reduceIte,Nat.reduceEqDiff,reduceIte], by simp (disch:=first|assumption|omega) only[b9,go_sem], by simp (disch:=first|assumption|omega) only[b6,go_sem], by simp (disch:=first|assumption|omega) only[b7,go_sem]⟩, by simp (disch:=first|assumption|omega) only[e52,go_sem,↓reduceIte,Nat.reduceEqDiff,reduceIte], by simp (disch:=first|assumption|omega) only[e15,go_sem,↓reduceIte,Nat.reduceEqDiff,reduceIte], by simp (disch:=first|assumption|omega) only[go_sem]; exact hT2, ok_mono ok1 (by omega), by simp (disch:=first|assumption|omega) only[b10,go_sem]⟩ ?_
          clear e88 e87 e1 e11 e9 e10 e6 e7 e51 b9 b6 b7 e52 e15 b10 hT2 hin ok1
          rintro d3 S3 ⟨k, em, hk, hin, e97, e96, e95, e18, e17, e88, e87, ⟨e1, e11, e9, e10, e6, e7, e51, b9, b6, b7⟩, e52, e15, hT2, okm, b10⟩
          by_cases hlt2 : (k : Int) < L'.length
          · have hk1 : k < L'.length := by omega
            have hat := at_outF hk1
            have hdk : L'.drop k = L'[k] :: L'.drop (k + 1) := List.drop_eq_getElem_cons hk1
            have hxi := hLi _ (List.getElem_mem hk1)
            rw [hdk, List.map_cons] at hin
            obtain ⟨hie, hin2⟩ := inAll_cons hin
            generalize L'[k] = x at *
            have hob := ownB_rdo x.1
            have hcl2 := checkF_len hxi.1
            simp only[msgA,msgC] at hat
            obtain ⟨Ms, oe, of, tr⟩ := hT2
            simp (disch:=first|assumption|omega) only[e97,e96,e95,e18,hlt2,hat,hrv,hlo,fillV,go_sem,↓reduceIte,Nat.reduceEqDiff,Nat.reduceAdd,Nat.reduceLeDiff,reduceIte,Int.reduceAdd,Int.reduceMul,Nat.reduceMul]
            refine callG_ok (In_ok b oe 1 0 em (3000 * (t : Int) + 1 + 1010 * 1 + k) (ownB x.1) x.2.1 _ (by simp (disch:=first|assumption|omega) only[go_sem]; exact tr.erm) okm (by omega) ⟨hob, fun e => hxi.2 (by cases hb : x.1; rfl; rw [hb] at e; cases e)⟩ (by omega)) (by simp (disch:=first|assumption|omega) only[go_sem]) ?_
            rintro _ h3 ⟨rfl, hQE⟩
            simp (disch:=first|assumption|omega) only[go_sem] at hQE
            have hT3 := tr.upd hQE
            simp (disch:=first|assumption|omega) only[e97,e96,e95,e18,e17,e88,e87,e52,e15,b10,hie,go_sem,↓reduceIte,Nat.reduceEqDiff,reduceIte]
            exact ⟨d3 - 1, by omega, k + 1, inS em 1 0 x.2.1, by omega, hin2, by simp, ⟨by simp (disch:=first|assumption|omega) only[e1,go_sem,↓reduceIte,Nat.reduceEqDiff,reduceIte], by simp (disch:=first|assumption|omega) only[e11,go_sem,↓reduceIte,Nat.reduceEqDiff,reduceIte], by simp (disch:=first|assumption|omega) only[e9,go_sem,↓reduceIte,Nat.reduceEqDiff,reduceIte], by simp (disch:=first|assumption|omega) only[e10,go_sem,↓reduceIte,Nat.reduceEqDiff,reduceIte], by simp (disch:=first|assumption|omega) only[e6,go_sem,↓reduceIte,Nat.reduceEqDiff,reduceIte], by simp (disch:=first|assumption|omega) only[e7,go_sem,↓reduceIte,Nat.reduceEqDiff,reduceIte], by simp (disch:=first|assumption|omega) only[e51,go_sem,↓reduceIte,Nat.reduceEqDiff,reduceIte], by simp (disch:=first|assumption|omega) only[b9,go_sem,↓reduceIte,Nat.reduceEqDiff,reduceIte], by simp (disch:=first|assumption|omega) only[b6,go_sem,↓reduceIte,Nat.reduceEqDiff,reduceIte], by simp (disch:=first|assumption|omega) only[b7,go_sem,↓reduceIte,Nat.reduceEqDiff,reduceIte]⟩, hT3, ok_mono (inS_ok okm) (by omega)⟩
          · obtain rfl : k = L'.length := by omega
            rw [List.drop_length] at hin
            obtain rfl : em = em1 := Option.some.inj hin
            obtain ⟨Ms, oe, of, tr⟩ := hT2
            obtain ⟨go, gx, rfl, hgx, hgo⟩ := hx1.cases
            simp (disch:=first|assumption|omega) only[e97,e96,e18,e17,e10,b10,hlt2,g2,g1,go_sem,↓reduceIte,Nat.reduceEqDiff,Nat.reduceAdd,Nat.reduceLT,reduceIte,Int.reduceLT,Int.reduceLE,Int.reduceAdd,Int.reduceMul,Nat.reduceMul]
            have hgl := okm.got
            refine callG_cut (fun S' => S'.env 18 = .hp b 0 ∧ S'.env 17 = .int .i64 1 ∧ S'.env 88 = .int .i64 1 ∧ S'.env 87 = .agg [.hp a 0, .hp b 0] ∧ LkE q puts ticks nid a b S' ∧ S'.env 52 = .int .i64 t ∧ S'.env 15 = .int .i64 t ∧ Two S'.heap nid b a 1 0 fs (takeN s.net t 1) (emptied em) s.e0 ∧ ∃ gs, S'.boxes 10 = some gs ∧ GotsR gs (s.g0) (s.g1 ++ em.got)) ?_ ?_
            · refine callG_ok (Take_ok b oe 1 0 em _ (by simp (disch:=first|assumption|omega) only[go_sem]; exact tr.erm)) (by simp (disch:=first|assumption|omega) only[go_sem]) ?_
              rintro v h3 ⟨hgv, hQE⟩
              simp (disch:=first|assumption|omega) only[go_sem] at hQE
              have hT3 := tr.upd hQE
              have hgxl := hgx.length
              rcases hgo with ⟨rfl, rfl⟩ | rfl <;> rcases hgv with ⟨rfl, hg0⟩ | ⟨zs, rfl, hzs⟩
              · have hz : MsgsOk em.got [] := by rw [hg0]; rfl
                simp (disch:=first|assumption|omega) only[e18,e17,e88,e87,e10,e52,e15,fillV,g1,g2,go_sem,↓reduceIte,Nat.reduceEqDiff,Nat.reduceAdd,Nat.reduceLeDiff,Nat.reduceLT,reduceIte,Int.reduceLT,Int.reduceLE,Int.reduceAdd,Int.reduceMul,Nat.reduceMul]
                exact ⟨⟨by simp (disch:=first|assumption|omega) only[e1,go_sem,↓reduceIte,Nat.reduceEqDiff,reduceIte], by simp (disch:=first|assumption|omega) only[e11,go_sem,↓reduceIte,Nat.reduceEqDiff,reduceIte], by simp (disch:=first|assumption|omega) only[e9,go_sem,↓reduceIte,Nat.reduceEqDiff,reduceIte], by simp (disch:=first|assumption|omega) only[e10,go_sem,↓reduceIte,Nat.reduceEqDiff,reduceIte], by simp (disch:=first|assumption|omega) only[e6,go_sem,↓reduceIte,Nat.reduceEqDiff,reduceIte], by simp (disch:=first|assumption|omega) only[e7,go_sem,↓reduceIte,Nat.reduceEqDiff,reduceIte], by simp (disch:=first|assumption|omega) only[e51,go_sem,↓reduceIte,Nat.reduceEqDiff,reduceIte], by simp (disch:=first|assumption|omega) only[b9,go_sem,↓reduceIte,Nat.reduceEqDiff,reduceIte], by simp (disch:=first|assumption|omega) only[b6,go_sem,↓reduceIte,Nat.reduceEqDiff,reduceIte], by simp (disch:=first|assumption|omega) only[b7,go_sem,↓reduceIte,Nat.reduceEqDiff,reduceIte]⟩, hT3, _, rfl, _, _, rfl, hx0, .inr ⟨_, rfl, hgx.app hz⟩⟩
              · have hz := hzs
                have hzw := hzs.width
                have hzl := hzs.length
                simp (disch:=first|assumption|omega) only[e18,e17,e88,e87,e10,e52,e15,fillV,g1,g2,go_sem,↓reduceIte,Nat.reduceEqDiff,Nat.reduceAdd,Nat.reduceLeDiff,Nat.reduceLT,reduceIte,Int.reduceLT,Int.reduceLE,Int.reduceAdd,Int.reduceMul,Nat.reduceMul]
                exact ⟨hzw, by omega, by omega, ⟨by simp (disch:=first|assumption|omega) only[e1,go_sem,↓reduceIte,Nat.reduceEqDiff,reduceIte], by simp (disch:=first|assumption|omega) only[e11,go_sem,↓reduceIte,Nat.reduceEqDiff,reduceIte], by simp (disch:=first|assumption|omega) only[e9,go_sem,↓reduceIte,Nat.reduceEqDiff,reduceIte], by simp (disch:=first|assumption|omega) only[e10,go_sem,↓reduceIte,Nat.reduceEqDiff,reduceIte], by simp (disch:=first|assumption|omega) only[e6,go_sem,↓reduceIte,Nat.reduceEqDiff,reduceIte], by simp (disch:=first|assumption|omega) only[e7,go_sem,↓reduceIte,Nat.reduceEqDiff,reduceIte], by simp (disch:=first|assumption|omega) only[e51,go_sem,↓reduceIte,Nat.reduceEqDiff,reduceIte], by simp (disch:=first|assumption|omega) only[b9,go_sem,↓reduceIte,Nat.reduceEqDiff,reduceIte], by simp (disch:=first|assumption|omega) only[b6,go_sem,↓reduceIte,Nat.reduceEqDiff,reduceIte], by simp (disch:=first|assumption|omega) only[b7,go_sem,↓reduceIte,Nat.reduceEqDiff,reduceIte]⟩, hT3, _, rfl, _, _, rfl, hx0, .inr ⟨_, rfl, hgx.app hz⟩⟩
              · have hz : MsgsOk em.got [] := by rw [hg0]; rfl
                simp (disch:=first|assumption|omega) only[e18,e17,e88,e87,e10,e52,e15,fillV,g1,g2,go_sem,↓reduceIte,Nat.reduceEqDiff,Nat.reduceAdd,Nat.reduceLeDiff,Nat.reduceLT,reduceIte,Int.reduceLT,Int.reduceLE,Int.reduceAdd,Int.reduceMul,Nat.reduceMul]
                have hgz : MsgsOk (s.g1 ++ em.got) gx := by simpa using hgx.app hz
                exact ⟨by omega, by omega, ⟨by simp (disch:=first|assumption|omega) only[e1,go_sem,↓reduceIte,Nat.reduceEqDiff,reduceIte], by simp (disch:=first|assumption|omega) only[e11,go_sem,↓reduceIte,Nat.reduceEqDiff,reduceIte], by simp (disch:=first|assumption|omega) only[e9,go_sem,↓reduceIte,Nat.reduceEqDiff,reduceIte], by simp (disch:=first|assumption|omega) only[e10,go_sem,↓reduceIte,Nat.reduceEqDiff,reduceIte], by simp (disch:=first|assumption|omega) only[e6,go_sem,↓reduceIte,Nat.reduceEqDiff,reduceIte], by simp (disch:=first|assumption|omega) only[e7,go_sem,↓reduceIte,Nat.reduceEqDiff,reduceIte], by simp (disch:=first|assumption|omega) only[e51,go_sem,↓reduceIte,Nat.reduceEqDiff,reduceIte], by simp (disch:=first|assumption|omega) only[b9,go_sem,↓reduceIte,Nat.reduceEqDiff,reduceIte], by simp (disch:=first|assumption|omega) only[b6,go_sem,↓reduceIte,Nat.reduceEqDiff,reduceIte], by simp (disch:=first|assumption|omega) only[b7,go_sem,↓reduceIte,Nat.reduceEqDiff,reduceIte]⟩, hT3, _, rfl, _, _, rfl, hx0, .inr ⟨_, rfl, hgz⟩⟩
              · have hz := hzs
                have hzw := hzs.width
                have hzl := hzs.length
                simp (disch:=first|assumption|omega) only[e18,e17,e88,e87,e10,e52,e15,fillV,g1,g2,go_sem,↓reduceIte,Nat.reduceEqDiff,Nat.reduceAdd,Nat.reduceLeDiff,Nat.reduceLT,reduceIte,Int.reduceLT,Int.reduceLE,Int.reduceAdd,Int.reduceMul,Nat.reduceMul]
                exact ⟨hzw, by omega, by omega, ⟨by simp (disch:=first|assumption|omega) only[e1,go_sem,↓reduceIte,Nat.reduceEqDiff,reduceIte], by simp (disch:=first|assumption|omega) only[e11,go_sem,↓reduceIte,Nat.reduceEqDiff,reduceIte], by simp (disch:=first|assumption|omega) only[e9,go_sem,↓reduceIte,Nat.reduceEqDiff,reduceIte], by simp (disch:=first|assumption|omega) only[e10,go_sem,↓reduceIte,Nat.reduceEqDiff,reduceIte], by simp (disch:=first|assumption|omega) only[e6,go_sem,↓reduceIte,Nat.reduceEqDiff,reduceIte], by simp (disch:=first|assumption|omega) only[e7,go_sem,↓reduceIte,Nat.reduceEqDiff,reduceIte], by simp (disch:=first|assumption|omega) only[e51,go_sem,↓reduceIte,Nat.reduceEqDiff,reduceIte], by simp (disch:=first|assumption|omega) only[b9,go_sem,↓reduceIte,Nat.reduceEqDiff,reduceIte], by simp (disch:=first|assumption|omega) only[b6,go_sem,↓reduceIte,Nat.reduceEqDiff,reduceIte], by simp (disch:=first|assumption|omega) only[b7,go_sem,↓reduceIte,Nat.reduceEqDiff,reduceIte]⟩, hT3, _, rfl, _, _, rfl, hx0, .inr ⟨_, rfl, hgx.app hz⟩⟩
            · clear e97 e96 e95 e18 e17 e88 e87 e1 e11 e9 e10 e6 e7 e51 b9 b6 b7 e52 e15 b10 tr
              clear Ms oe of
              rintro S4 ⟨e18, e17, e88, e87, ⟨e1, e11, e9, e10, e6, e7, e51, b9, b6, b7⟩, e52, e15, ⟨Ms, oe, of, tr⟩, gs, b10, hG⟩
              simp (disch:=first|assumption|omega) only[e18,e15,htc,go_sem,↓reduceIte,Nat.reduceEqDiff,reduceIte]
              refine callG_ok (Out_ok b oe 1 0 (emptied em) (3000 * (t : Int) + 1 + 1010 * 1 + L'.length + 1) t t _ (by simp (disch:=first|assumption|omega) only[go_sem]; exact tr.erm) (takeS_ok okm) (by omega)) (by simp (disch:=first|assumption|omega) only[go_sem]) ?_
              rintro v h4 ⟨hgv, hQE⟩
              simp (disch:=first|assumption|omega) only[go_sem] at hQE
              rw [hcl] at hgv hQE
              have hT4 := tr.upd hQE
              have okq : (outS (emptied em) t).ok (3000 * (t : Int) + 1 + 1010 * 1 + L'.length + 1 + 1) := outS_ok (takeS_ok okm) (by omega)
              obtain ⟨outs, hoe⟩ : ∃ outs, outs = outL (emptied em) 1 0 t t := ⟨_, rfl⟩
              rw [← hoe] at hgv
              have hol : outs.length ≤ 9 := by rw [hoe]; exact outL_len _ _ _ _ _
              have hsend : sendAll fs t (takeN s.net t 1) outs = some n' := by rw [hoe]; exact hsend
              obtain ⟨wo, ws, rfl, hws, hwo⟩ := hgv.cases
              have hrvw : ∃ q4, rdv (.lst wo ws) = .lst q4 ws ∧ Rdo q4 := by
                rcases hwo with ⟨rfl, _⟩ | rfl
                · exact ⟨.nil, rfl, .inr rfl⟩
                · exact ⟨.sh, rfl, .inl rfl⟩
              obtain ⟨q4, hrvw, hq4⟩ := hrvw
              have hwl := hws.length
              simp (disch:=first|assumption|omega) only[hrvw,hwl,go_sem,↓reduceIte,reduceIte]
              refine aw_count (fun d5 S' => ∃ (k : Nat) (net1 : NetP), k + d5 = outs.length ∧ sendAll fs t net1 (outs.drop k) = some n' ∧ S'.env 122 = .int .i64 k ∧ S'.env 121 = .int .i64 outs.length ∧ S'.env 120 = .lst wo ws ∧ S'.env 88 = .int .i64 1 ∧ S'.env 87 = .agg [.hp a 0, .hp b 0] ∧ LkE q puts ticks nid a b S' ∧ S'.env 52 = .int .i64 t ∧ S'.env 15 = .int .i64 t ∧ Two S'.heap nid b a 1 0 fs net1 (outS (emptied em) t) s.e0 ∧ S'.boxes 10 = some gs) (n := outs.length)
                ⟨0, takeN s.net t 1, by omega, hsend, by simp (disch:=first|assumption|omega) only[go_sem,↓reduceIte,reduceIte], by simp (disch:=first|assumption|omega) only[go_sem,↓reduceIte,Nat.reduceEqDiff,reduceIte], by simp (disch:=first|assumption|omega) only[go_sem,↓reduceIte,Nat.reduceEqDiff,reduceIte], by simp (disch:=first|assumption|omega) only[e88,go_sem,↓reduceIte,Nat.reduceEqDiff,reduceIte], by simp (disch:=first|assumption|omega) only[e87,go_sem,↓reduceIte,Nat.reduceEqDiff,reduceIte], ⟨by simp (disch:=first|assumption|omega) only[e1,go_sem,↓reduceIte,Nat.reduceEqDiff,reduceIte], by simp (disch:=first|assumption|omega) only[e11,go_sem,↓reduceIte,Nat.reduceEqDiff,reduceIte], by simp (disch:=first|assumption|omega) only[e9,go_sem,↓reduceIte,Nat.reduceEqDiff,reduceIte], by simp (disch:=first|assumption|omega) only[e10,go_sem,↓reduceIte,Nat.reduceEqDiff,reduceIte], by simp (disch:=first|assumption|omega) only[e6,go_sem,↓reduceIte,Nat.reduceEqDiff,reduceIte], by simp (disch:=first|assumption|omega) only[e7,go_sem,↓reduceIte,Nat.reduceEqDiff,reduceIte], by simp (disch:=first|assumption|omega) only[e51,go_sem,↓reduceIte,Nat.reduceEqDiff,reduceIte], by simp (disch:=first|assumption|omega) only[b9,go_sem], by simp (disch:=first|assumption|omega) only[b6,go_sem], by simp (disch:=first|assumption|omega) only[b7,go_sem]⟩, by simp (disch:=first|assumption|omega) only[e52,go_sem,↓reduceIte,Nat.reduceEqDiff,reduceIte], by simp (disch:=first|assumption|omega) only[e15,go_sem,↓reduceIte,Nat.reduceEqDiff,reduceIte], by simp (disch:=first|assumption|omega) only[go_sem]; exact hT4, by simp (disch:=first|assumption|omega) only[b10,go_sem]⟩ ?_
              clear e18 e17 e88 e87 e1 e11 e9 e10 e6 e7 e51 b9 b6 b7 e52 e15 b10 hT4 hsend tr hQE
              clear Ms oe of
              rintro d5 S5 ⟨k, net1, hk5, hsend, e122, e121, e120, e88, e87, ⟨e1, e11, e9, e10, e6, e7, e51, b9, b6, b7⟩, e52, e15, ⟨Ms, oe, of, tr⟩, b10⟩
              by_cases hlt5 : (k : Int) < outs.length
              · have hk6 : k < outs.length := by omega
                obtain ⟨om, hom, homl, hat⟩ := hws.at k hk6
                have hdk : outs.drop k = outs[k] :: outs.drop (k + 1) := List.drop_eq_getElem_cons hk6
                rw [hdk] at hsend
                obtain ⟨hse, hs2⟩ := sendAll_cons hsend
                generalize outs[k] = m at *
                simp only[msgA,msgC] at hat
                have hnl : net1.2.length = Ms.length := by rw [← tr.ms, List.length_map]
                rw [hnl] at hse
                have hbd := sendP_bd fs t m.From
                have hom1 := hom.1
                simp (disch:=first|assumption|omega) only[e122,e121,e120,e11,e15,hlt5,hat,hrvw,hwl,fillV,go_sem,↓reduceIte,Nat.reduceEqDiff,Nat.reduceAdd,Nat.reduceLeDiff,reduceIte,Int.reduceAdd]
                refine callG_ok (NetSend_ok nid fs net1.1 t Ms om m hom homl hfl _ (by simp (disch:=first|assumption|omega) only[go_sem]; exact tr.nr)) (by simp (disch:=first|assumption|omega) only[go_sem]) ?_
                rintro _ h6 ⟨rfl, _, hS2⟩
                obtain ⟨hf6, Ns, hNs, hNb, hn6⟩ := hS2 hse
                simp (disch:=first|assumption|omega) only[go_sem] at hf6
                have hT6 : Two h6 nid b a 1 0 fs (t, net1.2 ++ copies fs t m) (outS (emptied em) t) s.e0 := ⟨Ms ++ Ns, oe, of, tr.upn (net' := (t, net1.2 ++ copies fs t m)) hn6 (by rw [List.map_append, tr.ms, hNs]; rfl) (tr.way.app (way_of2 hNs (by omega) (sendE_fine hse) hNb)) hf6⟩
                simp (disch:=first|assumption|omega) only[e122,e121,e120,e88,e87,e52,e15,b10,hse,go_sem,↓reduceIte,Nat.reduceEqDiff,reduceIte]
                exact ⟨d5 - 1, by omega, k + 1, _, by omega, hs2, by simp, ⟨by simp (disch:=first|assumption|omega) only[e1,go_sem,↓reduceIte,Nat.reduceEqDiff,reduceIte], by simp (disch:=first|assumption|omega) only[e11,go_sem,↓reduceIte,Nat.reduceEqDiff,reduceIte], by simp (disch:=first|assumption|omega) only[e9,go_sem,↓reduceIte,Nat.reduceEqDiff,reduceIte], by simp (disch:=first|assumption|omega) only[e10,go_sem,↓reduceIte,Nat.reduceEqDiff,reduceIte], by simp (disch:=first|assumption|omega) only[e6,go_sem,↓reduceIte,Nat.reduceEqDiff,reduceIte], by simp (disch:=first|assumption|omega) only[e7,go_sem,↓reduceIte,Nat.reduceEqDiff,reduceIte], by simp (disch:=first|assumption|omega) only[e51,go_sem,↓reduceIte,Nat.reduceEqDiff,reduceIte], by simp (disch:=first|assumption|omega) only[b9,go_sem,↓reduceIte,Nat.reduceEqDiff,reduceIte], by simp (disch:=first|assumption|omega) only[b6,go_sem,↓reduceIte,Nat.reduceEqDiff,reduceIte], by simp (disch:=first|assumption|omega) only[b7,go_sem,↓reduceIte,Nat.reduceEqDiff,reduceIte]⟩, hT6⟩
              · obtain rfl : k = outs.length := by omega
                rw [List.drop_length] at hsend
                obtain rfl : net1 = n' := Option.some.inj hsend
                have hT7 : Two S5.heap nid b a 1 0 fs net1 (outS (emptied em) t) s.e0 := ⟨Ms, oe, of, tr⟩
                simp (disch:=first|assumption|omega) only[e122,e121,e88,e87,e52,e15,b10,hlt5,go_sem,↓reduceIte,Nat.reduceEqDiff,Nat.reduceAdd,reduceIte,Int.reduceAdd]
                exact ⟨d2 - 1, by omega, 1 + 1, { s with e1 := outS (emptied em) t, net := net1, g1 := s.g1 ++ em.got }, by omega, (by simp only[remP]; exact hB), by rfl, ⟨by simp (disch:=first|assumption|omega) only[e1,go_sem,↓reduceIte,Nat.reduceEqDiff,reduceIte], by simp (disch:=first|assumption|omega) only[e11,go_sem,↓reduceIte,Nat.reduceEqDiff,reduceIte], by simp (disch:=first|assumption|omega) only[e9,go_sem,↓reduceIte,Nat.reduceEqDiff,reduceIte], by simp (disch:=first|assumption|omega) only[e10,go_sem,↓reduceIte,Nat.reduceEqDiff,reduceIte], by simp (disch:=first|assumption|omega) only[e6,go_sem,↓reduceIte,Nat.reduceEqDiff,reduceIte], by simp (disch:=first|assumption|omega) only[e7,go_sem,↓reduceIte,Nat.reduceEqDiff,reduceIte], by simp (disch:=first|assumption|omega) only[e51,go_sem,↓reduceIte,Nat.reduceEqDiff,reduceIte], by simp (disch:=first|assumption|omega) only[b9,go_sem], by simp (disch:=first|assumption|omega) only[b6,go_sem], by simp (disch:=first|assumption|omega) only[b7,go_sem]⟩, hT7.swap, ok_mono ok0 (by omega), ok_mono okq (by omega), by simp only; omega, by simp only[List.length_append]; omega, _, rfl, hG⟩
        · simp (disch:=first|assumption|omega) only[e88,e52,b10,g2,go_sem,↓reduceIte,Nat.reduceEqDiff,Nat.reduceLT,reduceIte,Int.reduceLT]
          simp only[remP,Option.some.injEq] at hA
          subst hA
          exact ⟨d, by omega, t + 1, s, by omega, hB, by simp, ⟨by simp (disch:=first|assumption|omega) only[e1,go_sem,↓reduceIte,Nat.reduceEqDiff,reduceIte], by simp (disch:=first|assumption|omega) only[e11,go_sem,↓reduceIte,Nat.reduceEqDiff,reduceIte], by simp (disch:=first|assumption|omega) only[e9,go_sem,↓reduceIte,Nat.reduceEqDiff,reduceIte], by simp (disch:=first|assumption|omega) only[e10,go_sem,↓reduceIte,Nat.reduceEqDiff,reduceIte], by simp (disch:=first|assumption|omega) only[e6,go_sem,↓reduceIte,Nat.reduceEqDiff,reduceIte], by simp (disch:=first|assumption|omega) only[e7,go_sem,↓reduceIte,Nat.reduceEqDiff,reduceIte], by simp (disch:=first|assumption|omega) only[e51,go_sem,↓reduceIte,Nat.reduceEqDiff,reduceIte], by simp (disch:=first|assumption|omega) only[b9,go_sem], by simp (disch:=first|assumption|omega) only[b6,go_sem], by simp (disch:=first|assumption|omega) only[b7,go_sem]⟩, hT, ok_mono ok0 (by omega), ok_mono ok1 (by omega), by omega, by omega, _, rfl, x0, x1, rfl, hx0, hx1⟩
    · obtain rfl : t = ticks := by omega
      obtain rfl : d = 0 := by omega
      obtain rfl : s = sF := Option.some.inj hrun
      obtain ⟨x0, x1, rfl, hx0, hx1⟩ := hG
      obtain ⟨o0, y0, rfl, hy0, ho0⟩ := hx0.cases
      obtain ⟨o1, y1, rfl, hy1, ho1⟩ := hx1.cases
      have hr0 : ∃ q0, Ge.rdc (.lst o0 y0) = .lst q0 y0 ∧ Rdo q0 := by
        rcases ho0 with ⟨rfl, _⟩ | rfl
        · exact ⟨.nil, rfl, .inr rfl⟩
        · exact ⟨.sh, rfl, .inl rfl⟩
      have hr1 : ∃ q1, Ge.rdc (.lst o1 y1) = .lst q1 y1 ∧ Rdo q1 := by
        rcases ho1 with ⟨rfl, _⟩ | rfl
        · exact ⟨.nil, rfl, .inr rfl⟩
        · exact ⟨.sh, rfl, .inl rfl⟩
      obtain ⟨q0, hr0, hq0⟩ := hr0
      obtain ⟨q1, hr1, hq1⟩ := hr1
      obtain ⟨Ms, oe, of, tr⟩ := hT
      simp (disch:=first|assumption|omega) only[e52,e9,e10,e51,b9,b10,hlt,hr0,hr1,g1,g2,go_sem,↓reduceIte,Nat.reduceEqDiff,Nat.reduceAdd,Nat.reduceLeDiff,Nat.reduceLT,reduceIte,Int.reduceLT,Int.reduceLE,Int.reduceAdd,Int.reduceMul,Nat.reduceMul]
      refine callqG_ok (Waits_ok a oe 0 1 s.e0 _ (by simp (disch:=first|assumption|omega) only[go_sem]; exact tr.erm)) (by simp (disch:=first|assumption|omega) only[go_sem]) ?_
      rintro _ _ ⟨rfl, hhh⟩
      refine ⟨hhh, ?_⟩
      rw [hhh]
      clear hhh
      simp (disch:=first|assumption|omega) only[go_sem,↓reduceIte,Nat.reduceEqDiff,reduceIte]
      refine callqG_ok (Waits_ok b of 1 0 s.e1 _ (by simp (disch:=first|assumption|omega) only[go_sem]; exact tr.ero)) (by simp (disch:=first|assumption|omega) only[go_sem]) ?_
      rintro _ _ ⟨rfl, hhh⟩
      refine ⟨hhh, ?_⟩
      rw [hhh]
      clear hhh
      have hrr0 : Ge.rdc (.lst q0 y0) = .lst q0 y0 := by rcases hq0 with rfl | rfl <;> rfl
      have hrr1 : Ge.rdc (.lst q1 y1) = .lst q1 y1 := by rcases hq1 with rfl | rfl <;> rfl
      simp (disch:=first|assumption|omega) only[e6,e7,b6,b7,fillV,go_sem,↓reduceIte,Nat.reduceEqDiff,Nat.reduceAdd,Nat.reduceLeDiff,reduceIte,Int.reduceAdd]
      subst hQ
      simp (disch:=first|assumption|omega) only[R.gantkeep5_linked,e6,e7,go_sem,↓reduceIte,Nat.reduceEqDiff,Nat.reduceAdd,reduceIte,Int.reduceAdd]
      exact ⟨q0, q1, y0, y1, hq0, hq1, hy0, hy1, rfl⟩
end Go.Proofs.Ytpdajkbfemcdlaa
namespace Go.Proofs.Ytpdajkbfemcdlaa
open Go.Ge
theorem takeN_len (n : NetP) (t to : Int) : (takeN n t to).2.length ≤ n.2.length := List.length_filter_le _ _
theorem link_first : ∃ s, linkP [] [0] 6 = some s ∧ s.g1.length = 1 ∧ s.g0 = [] ∧ s.e0.wait = [] ∧ s.e1.wait = [] := by
  have : (linkP [] [0] 6).map (fun s => (s.g1.length, s.g0.length, s.e0.wait.length, s.e1.wait.length)) = some (1, 0, 0, 0) := by decide +kernel
  cases h : linkP [] [0] 6 with
  | none => rw [h] at this; cases this
  | some s =>
    rw [h] at this
    simp only[Option.map_some,Option.some.injEq,Prod.mk.injEq] at this
    exact ⟨s, rfl, this.1, List.eq_nil_of_length_eq_zero this.2.1, List.eq_nil_of_length_eq_zero this.2.2.1, List.eq_nil_of_length_eq_zero this.2.2.2⟩
end Go.Proofs.Ytpdajkbfemcdlaa
namespace Go.Proofs.Ytpdajkbfemcdlaa
open Go.Ge
theorem linked_first (h : List HObj) : ACalls Try.prog F.gantkeep5_linked [.lst .nil [], .lst .sh [.int .i64 0], .int .i64 6] h (fun v _ => ∃ q0 q1 xs0 xs1, Rdo q0 ∧ Rdo q1 ∧ xs1.length = 1 ∧ v = .tup [.agg [.lst q0 xs0, .lst q1 xs1], .agg [.int .i64 0, .int .i64 0], .bool true]) := by
  obtain ⟨s, hs, g1, g0, w0, w1⟩ := link_first
  refine ACalls.mono (linked_ok .nil .sh [] [0] 6 s ⟨.inr rfl, fun _ => rfl⟩ (by simp) (.inl rfl) (by intro c hc; simp at hc; subst hc; unfold inI64; omega) (by simp) (by omega) hs h) ?_
  rintro v h' ⟨q0, q1, xs0, xs1, h1, h2, h3, h4, rfl⟩
  exact ⟨q0, q1, xs0, xs1, h1, h2, by rw [h4.length, g1], by rw [w0, w1]; rfl⟩
end Go.Proofs.Ytpdajkbfemcdlaa
namespace Go.Proofs.Ytpdajkbfemcdlaa
open Go.Ge
def la (L : List Int) (i : Nat) : Int := L.getD i (-1)
def WinI (T : Int) (L : List Int) : Prop := ∀ i, i < L.length → (i < 8 → 0 ≤ la L i ∧ T - 3 ≤ la L i ∧ la L i ≤ T) ∧ (8 ≤ i → la L i = -1)
def markL (t l : Int) : Int := if l < 0 ∨ t - l ≥ 4 then t else l
def outI (t : Int) (L : List Int) : List Int := (L.take 8).map (markL t) ++ L.drop 8
theorem outI_len (t : Int) (L : List Int) : (outI t L).length = L.length := by simp [outI]; omega
theorem la_drop (L : List Int) (c i : Nat) : la (L.drop c) i = la L (c + i) := by
  unfold la
  rw [List.getD_eq_getElem?_getD, List.getD_eq_getElem?_getD, List.getElem?_drop]
theorem la_out {t : Int} {L : List Int} {i : Nat} (h : i < L.length) : la (outI t L) i = if i < 8 then markL t (la L i) else la L i := by
  unfold la outI
  rw [List.getD_eq_getElem?_getD, List.getD_eq_getElem?_getD]
  by_cases h8 : i < 8
  · rw [if_pos h8, List.getElem?_append_left (by simp; omega), List.getElem?_map, List.getElem?_take, if_pos h8, List.getElem?_eq_getElem h]; rfl
  · rw [if_neg h8, List.getElem?_append_right (by simp; omega), List.getElem?_drop]
    congr 2
    simp; omega
def Mz (T : Int) (n r : Nat) (L : List Int) (bt : Bool) : Nat :=
  if r < n then
    if r < (n - L.length) + 8 then 3 * (n - r) + (if la L (r - (n - L.length)) = T then 1 else (la L (r - (n - L.length)) + 5 - T).toNat)
    else 3 * (n - r) + (if bt = true then 2 else if la L 0 = T then 3 else (la L 0 + 7 - T).toNat)
  else if 0 < L.length then (if bt = true then 1 else if la L 0 = T then 2 else (la L 0 + 6 - T).toNat)
  else 0
theorem Mz_le {T : Int} {n r : Nat} {L : List Int} {bt : Bool} (h0 : L.length ≤ n) (h1 : n - L.length ≤ r) (hW : WinI T L) : Mz T n r L bt ≤ 3 * n + 6 := by
  unfold Mz
  split
  · split
    · have := (hW (r - (n - L.length)) (by omega)).1 (by omega)
      split <;> omega
    · have := (hW 0 (by omega)).1 (by omega)
      split <;> (try split) <;> omega
  · split
    · have := (hW 0 (by omega)).1 (by omega)
      split <;> (try split) <;> omega
    · omega
theorem Mz_step {T : Int} {n r r' c : Nat} {L : List Int} {bt bt' : Bool} (h0 : L.length ≤ n) (h1 : n - L.length ≤ r) (h2 : r ≤ n) (h3 : r ≤ (n - L.length) + 8) (hW : WinI T L) (hc : c = if bt = true then r - (n - L.length) else 0)
    (hr1 : r < n → r < (n - L.length) + 8 → la L (r - (n - L.length)) = T → r < r' ∧ r' ≤ n ∧ r' ≤ (n - L.length) + 8 ∧ (r' < n → r' < (n - L.length) + 8 → la L (r' - (n - L.length)) ≠ T))
    (hr2 : ¬(r < n ∧ r < (n - L.length) + 8 ∧ la L (r - (n - L.length)) = T) → r' = r)
    (hb : ∀ i, i < 8 → i < L.length → la L i = T → bt' = true) (hpos : 0 < Mz T n r L bt) :
    Mz (T + 1) n r' (outI (T + 1) (L.drop c)) bt' < Mz T n r L bt := by
  have hcl : c ≤ L.length := by rw [hc]; split <;> omega
  have hl' : (outI (T + 1) (L.drop c)).length = L.length - c := by rw [outI_len, List.length_drop]
  have hla : ∀ i, i < L.length - c → i < 8 → la (outI (T + 1) (L.drop c)) i = markL (T + 1) (la L (c + i)) := fun i h h8 => by
    rw [la_out (by rw [List.length_drop]; exact h), if_pos h8, la_drop]
  have hmk : ∀ i, i < L.length → (i < 8 → la L i = T - 3 → markL (T + 1) (la L i) = T + 1) ∧ (i < 8 → la L i ≠ T - 3 → markL (T + 1) (la L i) = la L i) ∧ (8 ≤ i → markL (T + 1) (la L i) = T + 1) := fun i hi => by
    have hw := hW i hi
    refine ⟨fun h8 e => ?_, fun h8 e => ?_, fun h8 => ?_⟩
    · unfold markL; rw [if_pos (by omega)]
    · have := hw.1 h8
      unfold markL; rw [if_neg (by omega)]
    · have := hw.2 h8
      unfold markL; rw [if_pos (by omega)]
  obtain ⟨b, hbd⟩ : ∃ b, b = n - L.length := ⟨_, rfl⟩
  obtain ⟨b', hbd'⟩ : ∃ b', b' = n - (L.length - c) := ⟨_, rfl⟩
  have hbc : b' = b + c := by omega
  have hcb : c ≤ r - b := by rw [hc, hbd]; split <;> omega
  unfold Mz at hpos ⊢
  rw [hl', ← hbd']
  rw [← hbd] at hpos hr1 hr2 h1 h3 hc ⊢
  by_cases hrn : r < n
  · rw [if_pos hrn]
    by_cases hr8 : r < b + 8
    · rw [if_pos hr8]
      have hwr := (hW (r - b) (by omega)).1 (by omega)
      by_cases hT : la L (r - b) = T
      · rw [if_pos hT]
        obtain ⟨q1, q2, q3, q4⟩ := hr1 hrn hr8 hT
        have hbt := hb (r - b) (by omega) (by omega) hT
        by_cases hn' : r' < n
        · rw [if_pos hn']
          by_cases h8' : r' < b' + 8
          · rw [if_pos h8']
            rw [hla (r' - b') (by omega) (by omega), show c + (r' - b') = r' - b by split at hc <;> omega]
            have hm := hmk (r' - b) (by omega)
            by_cases hin : r' < b + 8
            · have hne := q4 hn' hin
              have hw' := (hW (r' - b) (by omega)).1 (by omega)
              by_cases h3T : la L (r' - b) = T - 3
              · rw [hm.1 (by omega) h3T, if_pos rfl]; omega
              · rw [hm.2.1 (by omega) h3T]
                split <;> omega
            · rw [hm.2.2 (by omega), if_pos rfl]; omega
          · rw [if_neg h8', if_pos hbt]; omega
        · rw [if_neg hn', if_pos hbt]
          split <;> omega
      · rw [if_neg hT]
        have hr' := hr2 (fun h => hT h.2.2)
        subst hr'
        rw [if_pos hrn, if_pos (by omega)]
        rw [hla (r' - b') (by split at hc <;> omega) (by omega), show c + (r' - b') = r' - b by split at hc <;> omega]
        have hm := hmk (r' - b) (by omega)
        by_cases h3T : la L (r' - b) = T - 3
        · rw [hm.1 (by omega) h3T, if_pos rfl]; omega
        · rw [hm.2.1 (by omega) h3T]
          split <;> omega
    · rw [if_neg hr8]
      have hr' := hr2 (fun h => hr8 h.2.1)
      subst hr'
      have hw0 := (hW 0 (by omega)).1 (by omega)
      rw [if_pos hrn]
      by_cases hbt : bt = true
      · rw [if_pos hbt]
        rw [if_pos hbt] at hc
        rw [if_pos (by omega)]
        rw [hla (r' - b') (by omega) (by omega), show c + (r' - b') = 8 by omega, (hmk 8 (by omega)).2.2 (Nat.le_refl _), if_pos rfl]
        omega
      · rw [if_neg hbt]
        rw [if_neg hbt] at hc
        subst hc
        rw [if_neg (by omega)]
        by_cases h0T : la L 0 = T
        · rw [if_pos h0T, if_pos (hb 0 (by omega) (by omega) h0T)]; omega
        · rw [if_neg h0T]
          by_cases hbt' : bt' = true
          · rw [if_pos hbt']; omega
          · rw [if_neg hbt']
            rw [hla 0 (by omega) (by omega)]
            have hm := hmk 0 (by omega)
            rw [Nat.zero_add] at *
            by_cases h3T : la L 0 = T - 3
            · rw [hm.1 (by omega) h3T, if_pos rfl]; omega
            · rw [hm.2.1 (by omega) h3T]
              split <;> omega
  · rw [if_neg hrn] at hpos ⊢
    have hr' := hr2 (fun h => hrn h.1)
    subst hr'
    rw [if_neg hrn]
    by_cases hLp : 0 < L.length
    · rw [if_pos hLp]
      have hw0 := (hW 0 (by omega)).1 (by omega)
      by_cases hbt : bt = true
      · rw [if_pos hbt]
        rw [if_pos hbt] at hc
        rw [if_neg (by omega)]; omega
      · rw [if_neg hbt]
        rw [if_neg hbt] at hc
        subst hc
        rw [if_pos (by omega)]
        by_cases h0T : la L 0 = T
        · rw [if_pos h0T, if_pos (hb 0 (by omega) (by omega) h0T)]; omega
        · rw [if_neg h0T]
          by_cases hbt' : bt' = true
          · rw [if_pos hbt']; omega
          · rw [if_neg hbt']
            rw [hla 0 (by omega) (by omega)]
            have hm := hmk 0 (by omega)
            rw [Nat.zero_add] at *
            by_cases h3T : la L 0 = T - 3
            · rw [hm.1 (by omega) h3T, if_pos rfl]; omega
            · rw [hm.2.1 (by omega) h3T]
              split <;> omega
    · rw [if_neg hLp] at hpos; omega
theorem Mz_zero {T : Int} {n r : Nat} {L : List Int} {bt : Bool} (h0 : L.length ≤ n) (h1 : n - L.length ≤ r) (h2 : r ≤ n) (hW : WinI T L) (h : Mz T n r L bt = 0) : r = n ∧ L = [] := by
  unfold Mz at h
  split at h
  · split at h <;> omega
  · split at h
    · have := (hW 0 (by omega)).1 (by omega)
      split at h
      · omega
      · split at h <;> omega
    · exact ⟨by omega, List.eq_nil_of_length_eq_zero (by omega)⟩
end Go.Proofs.Ytpdajkbfemcdlaa
namespace Go.Proofs.Ytpdajkbfemcdlaa
open Go.Ge
theorem sendP_late {fs : List Fault} {t fr : Int} (h : ∀ f ∈ fs, f.N ≤ 4) : (sendP fs t fr).2 ≤ 4 := by
  have key : ∀ (fs : List Fault) (p : Int × Int), (∀ f ∈ fs, f.N ≤ 4) → p.2 ≤ 4 → (fs.foldl (stepS t fr) p).2 ≤ 4 := by
    intro fs
    induction fs with
    | nil => intro p _ h; exact h
    | cons f fs ih =>
      intro p h hp
      rw [List.foldl_cons]
      refine ih _ (fun g hg => h g (by simp [hg])) ?_
      have := h f (by simp)
      unfold stepS
      split
      · simp only; split <;> omega
      · exact hp
  exact key fs (1, 0) h (by decide)
theorem sendP_none {fs : List Fault} {t fr : Int} (h : ∀ f ∈ fs, f.Tick ≠ t) : sendP fs t fr = (1, 0) := by
  have key : ∀ (fs : List Fault) (p : Int × Int), (∀ f ∈ fs, f.Tick ≠ t) → fs.foldl (stepS t fr) p = p := by
    intro fs
    induction fs with
    | nil => intro p _; rfl
    | cons f fs ih =>
      intro p h
      rw [List.foldl_cons]
      have : stepS t fr p f = p := by unfold stepS; rw [if_neg (h f (by simp))]
      rw [this]
      exact ih _ fun g hg => h g (by simp [hg])
  exact key fs (1, 0) h
def lsW (w : List (Msg × Int)) : List Int := w.map (·.2)
theorem lsW_len (w : List (Msg × Int)) : (lsW w).length = w.length := List.length_map _
theorem lsW_out (t : Int) (w : List (Msg × Int)) : lsW (outW t w 8) = outI t (lsW w) := by
  have key : ((w.take 8).map (mark t)).map (·.2) = ((w.map (·.2)).take 8).map (markL t) := by
    rw [← List.map_take, List.map_map, List.map_map]
    refine List.map_congr_left fun p _ => ?_
    by_cases h : p.2 < 0 ∨ t - p.2 ≥ 4
    · have hd : due t p = true := by unfold due; simpa using h
      simp only[Function.comp,mark,markL,hd,if_true,if_pos h]
    · have hd : due t p = false := by unfold due; simp; omega
      simp only[Function.comp,mark,markL,hd,if_neg h,Bool.false_eq_true,if_false]
  unfold lsW outW outI
  rw [List.map_append, key, List.map_drop]
theorem lsW_drop (w : List (Msg × Int)) (c : Nat) : lsW (w.drop c) = (lsW w).drop c := List.map_drop
theorem la_lsW {w : List (Msg × Int)} {i : Nat} (h : i < w.length) : la (lsW w) i = (w[i]).2 := by
  simp [la, lsW, List.getD_eq_getElem?_getD, h]
def dat (T : Int) (w : List (Msg × Int)) : List Msg := ((w.take 8).filter fun p => decide (p.2 = T)).map fun p => { p.1 with Clock := T }
def bea (i j w T : Int) (b : Bool) : List Msg := if b = true then [⟨3, i, j, w, T, []⟩] else []
theorem out_dat {t : Int} {w : List (Msg × Int)} (h : ∀ p ∈ w, p.2 < t) : outM t t w 8 = dat t (outW t w 8) := by
  have h1 : (outW t w 8).take 8 = (w.take 8).map (mark t) := by
    unfold outW
    by_cases hl : w.length ≤ 8
    · rw [List.drop_of_length_le hl, List.append_nil, List.take_of_length_le (by simp; omega)]
    · rw [List.take_append_of_le_length (by simp; omega), List.take_of_length_le (by simp; omega)]
  unfold outM dat
  rw [h1, List.filter_map, List.map_map]
  have h2 : ∀ p ∈ w.take 8, ((fun p : Msg × Int => decide (p.2 = t)) ∘ mark t) p = due t p := fun p hp => by
    have := h p (List.mem_of_mem_take hp)
    show decide ((mark t p).2 = t) = due t p
    by_cases hd : due t p = true
    · have h3 : mark t p = (p.1, t) := by unfold mark; rw [if_pos hd]
      rw [h3, hd]; simp
    · have h3 : mark t p = p := by unfold mark; rw [if_neg hd]
      simp only[Bool.not_eq_true] at hd
      rw [h3, hd]; simp; omega
  rw [List.filter_congr h2]
  refine List.map_congr_left fun p _ => ?_
  simp only[Function.comp,mark]
  split <;> rfl
theorem inE_next {e e' : Lk} {i j : Int} {m : Msg} (h : e.next = e'.next) : inE e i j m = inE e' i j m := by unfold inE; rw [h]
def advW (w : Int) (D : List Msg) : Int := D.foldl (fun w m => if m.Seq = w then w + 1 else w) w
theorem fold_data {i j : Int} : ∀ (D : List Msg) (e : Lk), (∀ m ∈ D, inE e i j m = 0 ∧ m.Kind ≠ 3) →
    (D.foldl (fun e m => inS e i j m) e).wait = e.wait ∧ (D.foldl (fun e m => inS e i j m) e).next = e.next ∧ (D.foldl (fun e m => inS e i j m) e).owes = (e.owes || !D.isEmpty) ∧ (D.foldl (fun e m => inS e i j m) e).want = advW e.want D
  | [], e, _ => ⟨rfl, rfl, by simp, rfl⟩
  | m :: D, e, h => by
    obtain ⟨h1, h2⟩ := h m (by simp)
    have hS : inS e i j m = { e with owes := true, want := if m.Seq = e.want then e.want + 1 else e.want, got := (inS e i j m).got } := by
      unfold inS
      rw [if_neg (by simp [h1]), if_neg h2]
      split <;> simp_all
    have hn : (inS e i j m).next = e.next := by rw [hS]
    obtain ⟨k1, k2, k3, k4⟩ := fold_data D (inS e i j m) (fun x hx => ⟨by rw [inE_next hn]; exact (h x (by simp [hx])).1, (h x (by simp [hx])).2⟩)
    rw [List.foldl_cons]
    refine ⟨by rw [k1, hS], by rw [k2, hn], ?_, ?_⟩
    · rw [k3, hS]; simp
    · rw [k4, hS]; unfold advW; rw [List.foldl_cons]
theorem inS_beat {e : Lk} {i j : Int} {m : Msg} (h : inE e i j m = 0) (hk : m.Kind = 3) : inS e i j m = { e with wait := cutW m.Seq e.wait } := by
  unfold inS; rw [if_neg (by simp [h]), if_pos hk]
theorem cut_drop {q : Nat} : ∀ (w : List (Msg × Int)) (b : Nat), (∀ k (h : k < w.length), (w[k]).1.Seq = ((b + k : Nat) : Int)) → b ≤ q → q ≤ b + w.length → cutW (q : Int) w = w.drop (q - b)
  | [], b, _, _, _ => by simp [cutW]
  | p :: l, b, h, h1, h2 => by
    have h0 := h 0 (by simp)
    simp only[List.getElem_cons_zero,Nat.add_zero] at h0
    unfold cutW
    by_cases hq : b < q
    · rw [if_pos (by omega)]
      rw [cut_drop l (b + 1) (fun k hk => by have := h (k + 1) (by simpa using hk); simp only[List.getElem_cons_succ] at this; rw [this]; congr 1; omega) hq (by simp at h2; omega)]
      rw [show q - b = (q - (b + 1)) + 1 by omega, List.drop_succ_cons]
    · rw [if_neg (by omega), show q - b = 0 by omega, List.drop_zero]
theorem seqs_of {i j : Int} {P : List Msg} {w : List (Msg × Int)} {b : Nat} (hP : PutI i j P) (hw : w.map (·.1) = P.drop b) : ∀ k (h : k < w.length), (w[k]).1.Seq = ((b + k : Nat) : Int) := by
  intro k hk
  have h1 : (w.map (·.1))[k]? = some (w[k]).1 := by rw [List.getElem?_map, List.getElem?_eq_getElem hk]; rfl
  rw [hw, List.getElem?_drop] at h1
  exact (hP _ _ h1).1
theorem adv_dat {T : Int} {w : List (Msg × Int)} {b r : Nat} (hs : ∀ k (h : k < w.length), (w[k]).1.Seq = ((b + k : Nat) : Int)) (hr : b ≤ r) :
    ∃ r' : Nat, advW (r : Int) (dat T w) = r' ∧ (r < b + 8 → r < b + w.length → la (lsW w) (r - b) = T → r < r' ∧ r' ≤ b + w.length ∧ r' ≤ b + 8 ∧ (r' < b + w.length → r' < b + 8 → la (lsW w) (r' - b) ≠ T)) ∧ (¬(r < b + 8 ∧ r < b + w.length ∧ la (lsW w) (r - b) = T) → r' = r) := by
  have key : ∀ m : Nat, m ≤ w.length → ∃ r' : Nat, advW (r : Int) (((w.take m).filter fun p => decide (p.2 = T)).map fun p => { p.1 with Clock := T }) = r' ∧
      (r < b + m → la (lsW w) (r - b) = T → r < r' ∧ r' ≤ b + m ∧ (r' < b + m → la (lsW w) (r' - b) ≠ T)) ∧ (¬(r < b + m ∧ la (lsW w) (r - b) = T) → r' = r) := by
    intro m
    induction m with
    | zero => intro _; exact ⟨r, rfl, fun h => by omega, fun _ => rfl⟩
    | succ m ih =>
      intro hm
      obtain ⟨v, h1, h2, h3⟩ := ih (by omega)
      have hml : m < w.length := by omega
      have hsm := hs m hml
      have hla := la_lsW hml
      rw [List.take_add_one, List.getElem?_eq_getElem hml, Option.toList_some, List.filter_append, List.map_append]
      unfold advW at h1 ⊢
      rw [List.foldl_append, h1]
      by_cases hT : (w[m]).2 = T
      · have : ([w[m]].filter fun p => decide (p.2 = T)) = [w[m]] := by simp [hT]
        rw [this, List.map_cons, List.map_nil, List.foldl_cons, List.foldl_nil]
        simp only
        rw [hsm]
        by_cases hv : v = b + m
        · subst hv
          rw [if_pos rfl]
          refine ⟨b + m + 1, by omega, fun q1 q2 => ⟨?_, by omega, fun q3 => by omega⟩, fun q => ?_⟩
          · by_cases e : r < b + m
            · have := h2 e q2; omega
            · omega
          · exfalso
            have hrm : r = b + m := by
              by_cases e : r < b + m ∧ la (lsW w) (r - b) = T
              · exact absurd ⟨by omega, e.2⟩ q
              · have := h3 e; omega
            exact q ⟨by omega, by rw [hrm, show b + m - b = m by omega, hla, hT]⟩
        · rw [if_neg (by omega)]
          refine ⟨v, rfl, fun q1 q2 => ?_, fun q => ?_⟩
          · by_cases e : r < b + m
            · obtain ⟨k1, k2, k3⟩ := h2 e q2
              exact ⟨k1, by omega, fun _ => k3 (by omega)⟩
            · have hrm : r = b + m := by omega
              have := h3 (fun h => e h.1)
              omega
          · exact h3 fun h => q ⟨by omega, h.2⟩
      · have : ([w[m]].filter fun p => decide (p.2 = T)) = [] := by simp [hT]
        rw [this, List.map_nil, List.foldl_nil]
        refine ⟨v, rfl, fun q1 q2 => ?_, fun q => ?_⟩
        · by_cases e : r < b + m
          · obtain ⟨k1, k2, k3⟩ := h2 e q2
            refine ⟨k1, by omega, fun _ => ?_⟩
            by_cases hv : v < b + m
            · exact k3 hv
            · rw [show v - b = m by omega, hla]; exact hT
          · exfalso
            have hrm : r = b + m := by omega
            rw [hrm, show b + m - b = m by omega, hla] at q2
            exact hT q2
        · exact h3 fun h => q ⟨by omega, h.2⟩
  obtain ⟨r', h1, h2, h3⟩ := key (min 8 w.length) (by omega)
  have ht : w.take (min 8 w.length) = w.take 8 := by
    by_cases h : w.length ≤ 8
    · rw [Nat.min_eq_right h, List.take_of_length_le (Nat.le_refl _), List.take_of_length_le h]
    · rw [Nat.min_eq_left (by omega)]
  rw [ht] at h1
  refine ⟨r', h1, fun q1 q2 q3 => ?_, fun q => h3 fun h => q ⟨by omega, by omega, h.2⟩⟩
  obtain ⟨k1, k2, k3⟩ := h2 (by omega) q3
  exact ⟨k1, by omega, by omega, fun a1 a2 => k3 (by omega)⟩
theorem dat_some {T : Int} {w : List (Msg × Int)} {i : Nat} (h8 : i < 8) (hi : i < w.length) (hT : la (lsW w) i = T) : (dat T w).isEmpty = false := by
  have hm : w[i] ∈ (w.take 8).filter fun p => decide (p.2 = T) := by
    refine List.mem_filter.2 ⟨List.mem_take_iff_getElem.2 ⟨i, by omega, rfl⟩, ?_⟩
    rw [la_lsW hi] at hT
    simpa using hT
  unfold dat
  cases h : (w.take 8).filter fun p => decide (p.2 = T) with
  | nil => rw [h] at hm; cases hm
  | cons x l => rfl
end Go.Proofs.Ytpdajkbfemcdlaa
set_option maxRecDepth 20000
namespace Go.Proofs.Ytpdajkbfemcdlaa
open Go.Ge
def Early (fs : List Fault) : Prop := ∀ f ∈ fs, 0 ≤ f.Tick ∧ f.Tick ≤ 39 ∧ f.N ≤ 4
def cge (L : List (Msg × Int)) (d : Int) : Nat := L.countP fun x => decide (d ≤ x.2)
theorem cge_app (L M : List (Msg × Int)) (d : Int) : cge (L ++ M) d = cge L d + cge M d := List.countP_append
theorem cge_filter (L : List (Msg × Int)) (p : Msg × Int → Bool) (d : Int) : cge (L.filter p) d ≤ cge L d := by
  unfold cge
  exact (List.filter_sublist).countP_le
theorem cge_le (L : List (Msg × Int)) (d : Int) : cge L d ≤ L.length := List.countP_le_length
theorem cge_all {L : List (Msg × Int)} {d : Int} (h : ∀ x ∈ L, d ≤ x.2) : cge L d = L.length := by
  unfold cge
  rw [List.countP_eq_length]
  intro x hx; simpa using h x hx
def PreI (t : Int) (L : List Int) : Prop := ∀ i, i < L.length → (i < 8 → la L i = -1 ∨ (0 ≤ la L i ∧ t - 4 ≤ la L i ∧ la L i ≤ t - 1)) ∧ (8 ≤ i → la L i = -1)
theorem WinI.pre {t : Int} {L : List Int} (h : WinI (t - 1) L) (c : Nat) : PreI t (L.drop c) := by
  intro i hi
  rw [List.length_drop] at hi
  rw [la_drop]
  have := h (c + i) (by omega)
  refine ⟨fun h8 => ?_, fun h8 => this.2 (by omega)⟩
  by_cases h9 : c + i < 8
  · exact .inr (by have := this.1 h9; omega)
  · exact .inl (this.2 (by omega))
theorem PreI.snoc {t : Int} {L : List Int} (h : PreI t L) : PreI t (L ++ [-1]) := by
  intro i hi
  have hla : la (L ++ [-1]) i = if i < L.length then la L i else -1 := by
    unfold la
    rw [List.getD_eq_getElem?_getD, List.getD_eq_getElem?_getD]
    split
    · rename_i hl; rw [List.getElem?_append_left hl]
    · rename_i hl
      rw [List.getElem?_append_right (by omega)]
      cases h : i - L.length <;> simp
  rw [hla]
  split
  · rename_i hl; exact h i hl
  · exact ⟨fun _ => .inl rfl, fun _ => rfl⟩
theorem PreI.drop {t : Int} {L : List Int} (h : PreI t L) (c : Nat) : PreI t (L.drop c) := by
  intro i hi
  rw [List.length_drop] at hi
  rw [la_drop]
  have := h (c + i) (by omega)
  refine ⟨fun h8 => ?_, fun h8 => this.2 (by omega)⟩
  by_cases h9 : c + i < 8
  · exact this.1 h9
  · exact .inl (this.2 (by omega))
theorem PreI.win {t : Int} {L : List Int} (h : PreI t L) (h0 : 0 ≤ t) : WinI t (outI t L) := by
  intro i hi
  rw [outI_len] at hi
  rw [la_out hi]
  have := h i hi
  refine ⟨fun h8 => ?_, fun h8 => ?_⟩
  · rw [if_pos h8]
    unfold markL
    have := this.1 h8
    split <;> omega
  · rw [if_neg (by omega)]; exact this.2 h8
theorem PreI.lt {t : Int} {w : List (Msg × Int)} (h : PreI t (lsW w)) (h0 : 0 ≤ t) : ∀ p ∈ w, p.2 < t := by
  intro p hp
  obtain ⟨i, hi, rfl⟩ := List.getElem_of_mem hp
  have := h i (by rw [lsW_len]; exact hi)
  rw [la_lsW hi] at this
  by_cases h8 : i < 8
  · have := this.1 h8; omega
  · have := this.2 (by omega); omega
structure EarlyI (fs : List Fault) (t : Nat) (s : Sy) : Prop where
  w0 : WinI ((t : Int) - 1) (lsW s.e0.wait)
  w1 : WinI ((t : Int) - 1) (lsW s.e1.wait)
  o0 : s.e0.owes = false
  o1 : s.e1.owes = false
  due : ∀ x ∈ s.net.2, (t : Int) ≤ x.2 ∧ x.2 ≤ t + 4 ∧ (40 ≤ t → x.2 ≤ 44)
  cnt : ∀ j : Nat, j ≤ 5 → cge s.net.2 (t + j) ≤ 36 * (5 - j)
theorem out_win {t : Int} {e em : Lk} (h0 : 0 ≤ t) (h : PreI t (lsW e.wait)) (hc : ∃ c, c ≤ e.wait.length ∧ em.wait = e.wait.drop c) : WinI t (lsW (outS (emptied em) t).wait) := by
  obtain ⟨c, _, hc⟩ := hc
  have : (outS (emptied em) t).wait = outW t (e.wait.drop c) 8 := by rw [← hc]; rfl
  rw [this, lsW_out, lsW_drop]
  exact (h.drop c).win h0
theorem put_pre {t : Nat} {s s' : Sy} (w0 : WinI ((t : Int) - 1) (lsW s.e0.wait)) (w1 : WinI ((t : Int) - 1) (lsW s.e1.wait))
    (hc : s' = s ∨ ((∃ m, s'.e1 = s.e1 ∧ s'.e0 = { s.e0 with next := s.e0.next + 1, wait := s.e0.wait ++ [(m, -1)] }) ∨ (∃ m, s'.e0 = s.e0 ∧ s'.e1 = { s.e1 with next := s.e1.next + 1, wait := s.e1.wait ++ [(m, -1)] }))) :
    PreI t (lsW s'.e0.wait) ∧ PreI t (lsW s'.e1.wait) ∧ s'.e0.owes = s.e0.owes ∧ s'.e1.owes = s.e1.owes := by
  have p0 := w0.pre 0
  have p1 := w1.pre 0
  rw [List.drop_zero] at p0 p1
  rcases hc with rfl | ⟨m, h1, h0⟩ | ⟨m, h0, h1⟩
  · exact ⟨p0, p1, rfl, rfl⟩
  · rw [h0, h1]
    refine ⟨?_, p1, rfl, rfl⟩
    have := p0.snoc
    unfold lsW at this ⊢
    simpa using this
  · rw [h0, h1]
    refine ⟨p0, ?_, rfl, rfl⟩
    have := p1.snoc
    unfold lsW at this ⊢
    simpa using this
theorem early_copies {fs : List Fault} {t : Int} {m : Msg} {x : Msg × Int} (hf : Early fs) (hx : x ∈ copies fs t m) : t + 1 ≤ x.2 ∧ x.2 ≤ t + 5 := by
  have h1 := sendP_late (t := t) (fr := m.From) (fun f hf' => (hf f hf').2.2)
  have h2 := sendP_bd fs t m.From
  unfold copies at hx
  rw [List.eq_of_mem_replicate hx]
  simp only; omega
theorem late_copies {fs : List Fault} {t : Int} {m : Msg} (hf : Early fs) (ht : 40 ≤ t) : copies fs t m = [(m, t + 1)] := by
  unfold copies
  rw [sendP_none (fun f hf' => by have := (hf f hf').2.1; omega)]
  simp
theorem late_flat {fs : List Fault} {t : Int} (hf : Early fs) (ht : 40 ≤ t) (ms : List Msg) : ms.flatMap (copies fs t) = ms.map fun m => (m, t + 1) := by
  induction ms with
  | nil => rfl
  | cons m ms ih => rw [List.flatMap_cons, ih, late_copies hf ht]; rfl
theorem SyI.to {P0 P1 : List Msg} {t : Int} {s : Sy} (h : SyI P0 P1 t s) : ∀ x ∈ s.net.2, x.1.To = 0 ∨ x.1.To = 1 := fun x hx => by
  rcases h.net x hx with h1 | h1
  · exact .inr (h1.fields h.p0).2
  · exact .inl (h1.fields h.p1).2
structure TickD (fs : List Fault) (t : Nat) (P0 P1 : List Msg) (s1 s' : Sy) : Prop where
  run : (end0 fs t s1).bind (end1 fs t) = some s'
  inv : SyI P0 P1 (t : Nat) s'
  ex : ∃ em0 em1 s2, EndD fs t 0 s1.e0 s1.net s1.g0 (outS (emptied em0) t) em0 ∧ s2 = { s1 with e0 := outS (emptied em0) t, net := sendF fs t (takeN s1.net t 0) (outL (emptied em0) 0 1 t t), g0 := s1.g0 ++ em0.got } ∧ SyI P0 P1 t s2 ∧
    EndD fs t 1 s2.e1 s2.net s2.g1 (outS (emptied em1) t) em1 ∧ s' = { s2 with e1 := outS (emptied em1) t, net := sendF fs t (takeN s2.net t 1) (outL (emptied em1) 1 0 t t), g1 := s2.g1 ++ em1.got }
theorem tick_of {fs : List Fault} {t : Nat} {P0 P1 : List Msg} {s1 : Sy} (h : SyI P0 P1 (t : Nat) s1) (ht : t ≤ 2000) (hl : s1.net.2.length ≤ 900) : ∃ s', TickD fs t P0 P1 s1 s' := by
  obtain ⟨em0, d0, r2, hi2⟩ := h.step0 (fs := fs) (by omega) (by omega) (fun em _ => by
    have h1 := outL_len (emptied em) 0 1 t t
    have h2 := takeN_len s1.net t 0
    omega)
  obtain ⟨s2, hs2⟩ : ∃ s2 : Sy, s2 = { s1 with e0 := outS (emptied em0) t, net := sendF fs t (takeN s1.net t 0) (outL (emptied em0) 0 1 t t), g0 := s1.g0 ++ em0.got } := ⟨_, rfl⟩
  have l2 : s2.net.2.length ≤ 918 := by
    rw [hs2]
    simp only
    rw [sendF_2, List.length_append]
    have h1 := outL_len (emptied em0) 0 1 t t
    have h2 := takeN_len s1.net t 0
    have h3 := flat_len fs t (outL (emptied em0) 0 1 t t)
    omega
  rw [← hs2] at r2 hi2
  obtain ⟨em1, d1, r3, hi3⟩ := hi2.step1 (fs := fs) (by omega) (by omega) (fun em _ => by
    have h1 := outL_len (emptied em) 1 0 t t
    have h2 := takeN_len s2.net t 1
    omega)
  exact ⟨_, by rw [r2, Option.bind_some, r3], hi3, em0, em1, s2, d0, hs2, hi2, d1, rfl⟩
theorem net_after {fs : List Fault} {t : Nat} {P0 P1 : List Msg} {s1 s' : Sy} (d : TickD fs t P0 P1 s1 s') : ∃ em0 em1 : Lk, (∃ c, c ≤ s1.e0.wait.length ∧ em0.wait = s1.e0.wait.drop c) ∧ (∃ c, c ≤ s1.e1.wait.length ∧ em1.wait = s1.e1.wait.drop c) ∧ s'.e0 = outS (emptied em0) t ∧ s'.e1 = outS (emptied em1) t ∧
    s'.net.2 = (takeN (s1.net.1, (takeN s1.net t 0).2 ++ (outL (emptied em0) 0 1 t t).flatMap (copies fs t)) t 1).2 ++ (outL (emptied em1) 1 0 t t).flatMap (copies fs t) := by
  obtain ⟨_, _, em0, em1, s2, d0, rfl, _, d1, rfl⟩ := d
  refine ⟨em0, em1, d0.cut, d1.cut, rfl, rfl, ?_⟩
  simp only
  rw [sendF_2]
  congr 1
  unfold takeN
  simp only
  rw [sendF_2]
theorem early_step {fs : List Fault} {t : Nat} {P0 P1 : List Msg} {s s1 s' : Sy} (hf : Early fs) (he : EarlyI fs t s) (ht : t < 44) (hn : s1.net = s.net) (hp : PreI t (lsW s1.e0.wait) ∧ PreI t (lsW s1.e1.wait)) (h1 : SyI P0 P1 (t : Nat) s1) (d : TickD fs t P0 P1 s1 s') : EarlyI fs (t + 1) s' := by
  obtain ⟨em0, em1, c0, c1, e0, e1, hnet⟩ := net_after d
  have hto := h1.to
  rw [hn] at hnet hto
  have k0 := outL_len (emptied em0) 0 1 t t
  have k1 := outL_len (emptied em1) 1 0 t t
  have f0 := flat_len fs t (outL (emptied em0) 0 1 t t)
  have f1 := flat_len fs t (outL (emptied em1) 1 0 t t)
  have hold : ∀ x ∈ s'.net.2, x ∈ s.net.2 ∧ ¬x.2 ≤ (t : Int) ∨ ((t : Int) + 1 ≤ x.2 ∧ x.2 ≤ t + 5) ∧ (40 ≤ t → x.2 = t + 1) := by
    intro x hx
    rw [hnet] at hx
    have hcop : ∀ ms : List Msg, x ∈ ms.flatMap (copies fs t) → ((t : Int) + 1 ≤ x.2 ∧ x.2 ≤ t + 5) ∧ (40 ≤ t → x.2 = t + 1) := by
      intro ms hx
      obtain ⟨m, _, hm⟩ := List.mem_flatMap.1 hx
      refine ⟨early_copies hf hm, fun h40 => ?_⟩
      rw [late_copies hf (by omega)] at hm
      simp at hm; rw [hm]
    rcases List.mem_append.1 hx with hx | hx
    · unfold takeN at hx
      obtain ⟨h2, h3⟩ := List.mem_filter.1 hx
      simp only at h2
      rcases List.mem_append.1 h2 with h2 | h2
      · obtain ⟨h4, h5⟩ := List.mem_filter.1 h2
        refine .inl ⟨h4, fun hle => ?_⟩
        simp only[hereP,Bool.not_eq_true',Bool.and_eq_false_iff,decide_eq_false_iff_not] at h3 h5
        rcases hto x h4 with hz | hz
        · exact h5.elim (fun h => h hz) (fun h => h hle)
        · exact h3.elim (fun h => h hz) (fun h => h hle)
      · exact .inr (hcop _ h2)
    · exact .inr (hcop _ hx)
  refine ⟨?_, ?_, by rw [e0]; rfl, by rw [e1]; rfl, fun x hx => ?_, fun j hj => ?_⟩
  · rw [e0]
    have := out_win (by omega) hp.1 c0
    rwa [show (((t + 1 : Nat) : Int) - 1) = (t : Int) by omega]
  · rw [e1]
    have := out_win (by omega) hp.2 c1
    rwa [show (((t + 1 : Nat) : Int) - 1) = (t : Int) by omega]
  · rcases hold x hx with ⟨h2, h3⟩ | ⟨h2, h3⟩
    · have := he.due x h2
      refine ⟨by omega, by omega, fun h40 => ?_⟩
      by_cases h41 : 40 ≤ t
      · exact this.2.2 h41
      · have : t = 39 := by omega
        omega
    · refine ⟨by omega, by omega, fun h40 => ?_⟩
      by_cases h41 : 40 ≤ t
      · rw [h3 h41]; omega
      · omega
  · rw [hnet, cge_app]
    have a1 : cge ((outL (emptied em1) 1 0 t t).flatMap (copies fs t)) ((t + 1 : Nat) + j) ≤ 18 := Nat.le_trans (cge_le _ _) (by omega)
    have a2 : cge (takeN (s.net.1, (takeN s.net t 0).2 ++ (outL (emptied em0) 0 1 t t).flatMap (copies fs t)) t 1).2 ((t + 1 : Nat) + j) ≤ cge s.net.2 ((t + 1 : Nat) + j) + 18 := by
      refine Nat.le_trans (cge_filter _ _ _) ?_
      rw [cge_app]
      have a3 : cge ((outL (emptied em0) 0 1 t t).flatMap (copies fs t)) ((t + 1 : Nat) + j) ≤ 18 := Nat.le_trans (cge_le _ _) (by omega)
      have a4 : cge (takeN s.net t 0).2 ((t + 1 : Nat) + j) ≤ cge s.net.2 ((t + 1 : Nat) + j) := cge_filter _ _ _
      omega
    by_cases hj5 : j = 5
    · subst hj5
      have z : ∀ L : List (Msg × Int), (∀ x ∈ L, x ∈ s'.net.2) → cge L ((t + 1 : Nat) + (5 : Nat)) = 0 := by
        intro L hL
        unfold cge
        rw [List.countP_eq_zero]
        intro x hx
        rcases hold x (hL x hx) with ⟨h2, h3⟩ | ⟨h2, h3⟩
        · have := he.due x h2; simp; omega
        · simp; omega
      rw [z _ (fun x hx => by rw [hnet]; simp [hx]), z _ (fun x hx => by rw [hnet]; exact List.mem_append.2 (.inr hx))]
      omega
    · have := he.cnt (j + 1) (by omega)
      rw [show ((t : Int) + ((j + 1 : Nat) : Int)) = ((t + 1 : Nat) : Int) + j by omega] at this
      omega
end Go.Proofs.Ytpdajkbfemcdlaa
namespace Go.Proofs.Ytpdajkbfemcdlaa
open Go.Ge
theorem beat_drop {w : List (Msg × Int)} {b : Nat} {q : Int} (hs : ∀ k (h : k < w.length), (w[k]).1.Seq = ((b + k : Nat) : Int)) (h0 : 0 ≤ q) (h1 : q ≤ b + w.length) : cutW q w = w.drop (q.toNat - b) := by
  by_cases hb : b ≤ q.toNat
  · have := cut_drop (q := q.toNat) w b hs hb (by omega)
    rwa [Int.toNat_of_nonneg h0] at this
  · rw [show q.toNat - b = 0 by omega, List.drop_zero]
    cases w with
    | nil => rfl
    | cons p l =>
      have := hs 0 (by simp)
      simp only[List.getElem_cons_zero,Nat.add_zero] at this
      unfold cutW
      rw [if_neg (by omega)]
theorem EndI.base {P Q : List Msg} {e : Lk} {g : List Msg} (h : EndI P Q e g) : e.wait.length ≤ P.length ∧ e.wait.map (·.1) = P.drop (P.length - e.wait.length) := by
  obtain ⟨_, ⟨b, hb, hw⟩, _⟩ := h
  have := congrArg List.length hw
  rw [List.length_map, List.length_drop] at this
  exact ⟨by omega, by rw [hw]; congr 1; omega⟩
theorem recv_bw {i j wj : Int} {bj : Nat} {P Q : List Msg} {e : Lk} {g : List Msg} {m : Msg} (h : EndI P Q e g) (hij : 0 ≤ i ∧ i ≤ 4 ∧ 0 ≤ j ∧ j ≤ 4 ∧ i ≠ j) (hP : PutI i j P) (hQ : PutI j i Q) (hm : MsgD j i Q wj m) (hw : wj ≤ P.length) (hl : P.length ≤ 1000)
    (hd : m.Kind ≠ 3 → m.Seq < bj + 8) (h1 : ((P.length - e.wait.length : Nat) : Int) ≤ wj) (h2 : e.want ≤ bj + 8) :
    ((P.length - (inS e i j m).wait.length : Nat) : Int) ≤ wj ∧ (inS e i j m).want ≤ bj + 8 := by
  have hE := (h.recv hij hQ hm hw hl).1
  have hbs := h.base
  unfold inS
  rw [if_neg (by simp [hE])]
  rcases hm with ⟨k, hm⟩ | ⟨hk, _, _, h4, h5, _⟩
  · have hk3 : m.Kind ≠ 3 := (hQ k _ hm).2.2.2.2.1
    rw [if_neg hk3]
    split
    · rename_i hs
      have := hd hk3
      exact ⟨h1, by simp only; omega⟩
    · exact ⟨h1, h2⟩
  · rw [if_pos hk]
    refine ⟨?_, h2⟩
    simp only
    rw [beat_drop (seqs_of hP hbs.2) h4 (by omega), List.length_drop]
    omega
theorem recvs_bw {i j wj : Int} {bj : Nat} {P Q : List Msg} {g : List Msg} (hij : 0 ≤ i ∧ i ≤ 4 ∧ 0 ≤ j ∧ j ≤ 4 ∧ i ≠ j) (hP : PutI i j P) (hQ : PutI j i Q) (hw : wj ≤ P.length) (hl : P.length ≤ 1000) :
    ∀ (ms : List Msg) (e : Lk), EndI P Q e g → (∀ m ∈ ms, MsgD j i Q wj m ∧ (m.Kind ≠ 3 → m.Seq < bj + 8)) → ((P.length - e.wait.length : Nat) : Int) ≤ wj → e.want ≤ bj + 8 →
      ((P.length - (ms.foldl (fun e m => inS e i j m) e).wait.length : Nat) : Int) ≤ wj ∧ (ms.foldl (fun e m => inS e i j m) e).want ≤ bj + 8
  | [], e, _, _, h1, h2 => ⟨h1, h2⟩
  | m :: ms, e, h, hm, h1, h2 => by
    have h3 := (h.recv hij hQ (hm m (by simp)).1 hw hl).2.1
    obtain ⟨k1, k2⟩ := recv_bw h hij hP hQ (hm m (by simp)).1 hw hl (hm m (by simp)).2 h1 h2
    rw [List.foldl_cons]
    exact recvs_bw hij hP hQ hw hl ms _ h3 (fun x hx => hm x (by simp [hx])) k1 k2
structure BwI (P0 P1 : List Msg) (s : Sy) : Prop where
  l0 : ((P0.length - s.e0.wait.length : Nat) : Int) ≤ s.e1.want
  l1 : ((P1.length - s.e1.wait.length : Nat) : Int) ≤ s.e0.want
  h0 : s.e1.want ≤ ((P0.length - s.e0.wait.length : Nat) : Int) + 8
  h1 : s.e0.want ≤ ((P1.length - s.e1.wait.length : Nat) : Int) + 8
  net : ∀ x ∈ s.net.2, x.1.Kind ≠ 3 → (x.1.From = 0 → x.1.Seq < ((P0.length - s.e0.wait.length : Nat) : Int) + 8) ∧ (x.1.From = 1 → x.1.Seq < ((P1.length - s.e1.wait.length : Nat) : Int) + 8)
theorem outs_bw {i j t : Int} {P Q : List Msg} {e : Lk} {g : List Msg} (h : EndI P Q e g) (hP : PutI i j P) : ∀ m ∈ outL e i j t t, m.Kind ≠ 3 → m.From = i ∧ m.Seq < ((P.length - e.wait.length : Nat) : Int) + 8 := by
  intro m hm hk
  have hbs := h.base
  unfold outL at hm
  rcases List.mem_append.1 hm with hm | hm
  · unfold outM at hm
    obtain ⟨p, hp, rfl⟩ := List.mem_map.1 hm
    obtain ⟨k, hk8, rfl⟩ := List.mem_take_iff_getElem.1 (List.mem_filter.1 hp).1
    have hkl : k < e.wait.length := by omega
    have hs := seqs_of hP hbs.2 k hkl
    have h1 : (e.wait.map (·.1))[k]? = some (e.wait[k]).1 := by rw [List.getElem?_map, List.getElem?_eq_getElem hkl]; rfl
    rw [hbs.2, List.getElem?_drop] at h1
    refine ⟨(hP _ _ h1).2.1, ?_⟩
    show (e.wait[k]).1.Seq < _
    rw [hs]; omega
  · split at hm
    · simp only[List.mem_singleton] at hm
      subst hm
      exact absurd rfl hk
    · cases hm
theorem tick_bw {fs : List Fault} {t : Nat} {P0 P1 : List Msg} {s1 s' : Sy} (hi : SyI P0 P1 (t : Nat) s1) (hb : BwI P0 P1 s1) (d : TickD fs t P0 P1 s1 s') : BwI P0 P1 s' := by
  obtain ⟨_, hi', em0, em1, s2, d0, hs2, hi2, d1, hs'⟩ := d
  have hwl0 := hi.e0.want_le
  have hwl1 := hi.e1.want_le
  have hL := hi.l0
  -- the first end
  have a0 := recvs_bw (i := 0) (j := 1) (wj := s1.e1.want) (bj := P1.length - s1.e1.wait.length) (by omega) hi.p0 hi.p1 hwl1.1 (by omega) (takeM s1.net t 0) s1.e0 hi.e0 (fun m hm => by
    obtain ⟨h1, x, hx, rfl, _⟩ := mem_takeM hm
    have hD : MsgD 1 0 P1 s1.e1.want x.1 := (hi.net x hx).resolve_left fun h => by have := (h.fields hi.p0).2; omega
    exact ⟨hD, fun hk => (hb.net x hx hk).2 (hD.fields hi.p1).1⟩) hb.l0 hb.h1
  have hf0 : em0 = (takeM s1.net t 0).foldl (fun e m => inS e 0 1 m) s1.e0 := d0.fold
  rw [← hf0] at a0
  have hw0 := d0.want
  obtain ⟨c0, hc0, hcw0⟩ := d0.cut
  have hol0 : (outS (emptied em0) t).wait.length = em0.wait.length := by
    show (outW t em0.wait 8).length = _
    rw [outW_length]
  have hlen0 : em0.wait.length = s1.e0.wait.length - c0 := by rw [hcw0, List.length_drop]
  have hb0 := hi.e0.base
  have q0 : s2.e0 = outS (emptied em0) t := by rw [hs2]
  have q1 : s2.e1 = s1.e1 := by rw [hs2]
  have q2 : s2.net.2 = (takeN s1.net t 0).2 ++ (outL (emptied em0) 0 1 t t).flatMap (copies fs t) := by rw [hs2]; exact sendF_2 _ _ _ _
  have hE0 : EndI P0 P1 (emptied em0) s2.g0 := by
    obtain ⟨hn, ⟨b, h2, h3⟩, h4⟩ := hi2.e0
    have hw : (emptied em0).wait.map (·.1) = P0.drop b := by
      have h5 : (outW t em0.wait 8).map (·.1) = P0.drop b := by rw [q0] at h3; exact h3
      rw [outW_map] at h5; exact h5
    refine ⟨by rw [q0] at hn; exact hn, ⟨b, h2, hw⟩, ?_⟩
    rw [q0] at h4; exact h4
  have b2 : BwI P0 P1 s2 := by
    refine ⟨?_, ?_, ?_, ?_, fun x hx hk => ?_⟩
    · rw [q0, q1, hol0]; exact a0.1
    · rw [q0, q1]; have := hb.l1; show _ ≤ em0.want; omega
    · rw [q0, q1, hol0, hlen0]; have := hb.h0; omega
    · rw [q0, q1]; exact a0.2
    · rw [q0, q1, hol0]
      rw [q2] at hx
      rcases List.mem_append.1 hx with hx | hx
      · have := hb.net x (mem_takeN hx) hk
        refine ⟨fun h => ?_, this.2⟩
        have := this.1 h
        rw [hlen0]; omega
      · obtain ⟨m, hm, hx⟩ := List.mem_flatMap.1 hx
        rw [(mem_copies hx).1] at hk ⊢
        have := outs_bw hE0 hi.p0 m hm hk
        exact ⟨fun _ => this.2, fun h => by omega⟩
  -- the second end
  have hwl02 := hi2.e0.want_le
  have hwl12 := hi2.e1.want_le
  have a1 := recvs_bw (i := 1) (j := 0) (wj := s2.e0.want) (bj := P0.length - s2.e0.wait.length) (by omega) hi2.p1 hi2.p0 hwl02.1 (by omega) (takeM s2.net t 1) s2.e1 hi2.e1 (fun m hm => by
    obtain ⟨h1, x, hx, rfl, _⟩ := mem_takeM hm
    have hD : MsgD 0 1 P0 s2.e0.want x.1 := (hi2.net x hx).resolve_right fun h => by have := (h.fields hi.p1).2; omega
    exact ⟨hD, fun hk => (b2.net x hx hk).1 (hD.fields hi.p0).1⟩) b2.l1 b2.h0
  have hf1 : em1 = (takeM s2.net t 1).foldl (fun e m => inS e 1 0 m) s2.e1 := d1.fold
  rw [← hf1] at a1
  have hw1 := d1.want
  obtain ⟨c1, hc1, hcw1⟩ := d1.cut
  have hol1 : (outS (emptied em1) t).wait.length = em1.wait.length := by
    show (outW t em1.wait 8).length = _
    rw [outW_length]
  have hlen1 : em1.wait.length = s2.e1.wait.length - c1 := by rw [hcw1, List.length_drop]
  have hb1 := hi2.e1.base
  have r0 : s'.e0 = s2.e0 := by rw [hs']
  have r1 : s'.e1 = outS (emptied em1) t := by rw [hs']
  have r2 : s'.net.2 = (takeN s2.net t 1).2 ++ (outL (emptied em1) 1 0 t t).flatMap (copies fs t) := by rw [hs']; exact sendF_2 _ _ _ _
  have hE1 : EndI P1 P0 (emptied em1) s'.g1 := by
    obtain ⟨hn, ⟨b, h2, h3⟩, h4⟩ := hi'.e1
    have hw : (emptied em1).wait.map (·.1) = P1.drop b := by
      have h5 : (outW t em1.wait 8).map (·.1) = P1.drop b := by rw [r1] at h3; exact h3
      rw [outW_map] at h5; exact h5
    refine ⟨by rw [r1] at hn; exact hn, ⟨b, h2, hw⟩, ?_⟩
    rw [r1] at h4; exact h4
  refine ⟨?_, ?_, ?_, ?_, fun x hx hk => ?_⟩
  · rw [r0, r1]; have := b2.l0; show _ ≤ em1.want; omega
  · rw [r0, r1, hol1]; exact a1.1
  · rw [r0, r1]; exact a1.2
  · rw [r0, r1, hol1, hlen1]; have := b2.h1; omega
  · rw [r0, r1, hol1]
    rw [r2] at hx
    rcases List.mem_append.1 hx with hx | hx
    · have := b2.net x (mem_takeN hx) hk
      refine ⟨this.1, fun h => ?_⟩
      have := this.2 h
      rw [hlen1]; omega
    · obtain ⟨m, hm, hx⟩ := List.mem_flatMap.1 hx
      rw [(mem_copies hx).1] at hk ⊢
      have := outs_bw hE1 hi.p1 m hm hk
      exact ⟨fun h => by omega, fun _ => this.2⟩
end Go.Proofs.Ytpdajkbfemcdlaa
namespace Go.Proofs.Ytpdajkbfemcdlaa
open Go.Ge
theorem put_bw {puts : List Int} {P0 P1 P0' P1' : List Msg} {t : Nat} {s s' : Sy} (hb : BwI P0 P1 s) (hi : SyI P0 P1 t s) (hi' : SyI P0' P1' t s') (hn : s'.net = s.net)
    (hc : s' = s ∨ ((∃ m, s'.e1 = s.e1 ∧ s'.e0 = { s.e0 with next := s.e0.next + 1, wait := s.e0.wait ++ [(m, -1)] }) ∨ (∃ m, s'.e0 = s.e0 ∧ s'.e1 = { s.e1 with next := s.e1.next + 1, wait := s.e1.wait ++ [(m, -1)] }))) : BwI P0' P1' s' := by
  have n0 := hi.e0.next
  have n1 := hi.e1.next
  have m0 := hi'.e0.next
  have m1 := hi'.e1.next
  have b0 := hi.e0.base.1
  have b1 := hi.e1.base.1
  obtain ⟨l0, l1, h0, h1, hnet⟩ := hb
  rcases hc with rfl | ⟨m, h2, h3⟩ | ⟨m, h2, h3⟩
  · have e0 : P0'.length = P0.length := by omega
    have e1 : P1'.length = P1.length := by omega
    exact ⟨by rw [e0]; exact l0, by rw [e1]; exact l1, by rw [e0]; exact h0, by rw [e1]; exact h1, by rw [e0, e1]; exact hnet⟩
  · rw [h3] at m0
    rw [h2] at m1
    simp only at m0
    have e0 : P0'.length = P0.length + 1 := by omega
    have e1 : P1'.length = P1.length := by omega
    have hb0 : P0'.length - s'.e0.wait.length = P0.length - s.e0.wait.length := by rw [h3]; simp only[List.length_append,List.length_singleton]; omega
    have hb1 : P1'.length - s'.e1.wait.length = P1.length - s.e1.wait.length := by rw [h2, e1]
    have w0 : s'.e0.want = s.e0.want := by rw [h3]
    have w1 : s'.e1.want = s.e1.want := by rw [h2]
    refine ⟨by rw [hb0, w1]; exact l0, by rw [hb1, w0]; exact l1, by rw [hb0, w1]; exact h0, by rw [hb1, w0]; exact h1, ?_⟩
    rw [hb0, hb1, hn]; exact hnet
  · rw [h3] at m1
    rw [h2] at m0
    simp only at m1
    have e0 : P0'.length = P0.length := by omega
    have e1 : P1'.length = P1.length + 1 := by omega
    have hb0 : P0'.length - s'.e0.wait.length = P0.length - s.e0.wait.length := by rw [h2, e0]
    have hb1 : P1'.length - s'.e1.wait.length = P1.length - s.e1.wait.length := by rw [h3]; simp only[List.length_append,List.length_singleton]; omega
    have w0 : s'.e0.want = s.e0.want := by rw [h2]
    have w1 : s'.e1.want = s.e1.want := by rw [h3]
    refine ⟨by rw [hb0, w1]; exact l0, by rw [hb1, w0]; exact l1, by rw [hb0, w1]; exact h0, by rw [hb1, w0]; exact h1, ?_⟩
    rw [hb0, hb1, hn]; exact hnet
structure CleanI (t : Nat) (s : Sy) (b0 b1 : Bool) : Prop where
  net : s.net.2 = ((dat ((t : Int) - 1) s.e0.wait ++ bea 0 1 s.e0.want ((t : Int) - 1) b0) ++ (dat ((t : Int) - 1) s.e1.wait ++ bea 1 0 s.e1.want ((t : Int) - 1) b1)).map fun m => (m, (t : Int))
  w0 : WinI ((t : Int) - 1) (lsW s.e0.wait)
  w1 : WinI ((t : Int) - 1) (lsW s.e1.wait)
  o0 : s.e0.owes = false
  o1 : s.e1.owes = false
theorem bucket_same {L : List (Msg × Int)} {t : Nat} (h : ∀ x ∈ L, x.2 = (t : Int)) {n : Nat} (hn : t < n) : bucketP L n = L := by
  have key : ∀ n, bucketP L n = if t < n then L else [] := by
    intro n
    induction n with
    | zero => simp [bucketP]
    | succ n ih =>
      have h1 : bucketP L (n + 1) = bucketP L n ++ L.filter fun x => decide (x.2 = ((n : Nat) : Int)) := by
        unfold bucketP; rw [List.range_succ, List.flatMap_append, List.flatMap_cons, List.flatMap_nil, List.append_nil]
      rw [h1, ih]
      by_cases e : t = n
      · subst e
        rw [if_neg (by omega), if_pos (by omega), List.nil_append, List.filter_eq_self]
        intro x hx; simpa using h x hx
      · have h2 : (L.filter fun x => decide (x.2 = ((n : Nat) : Int))) = [] := by
          rw [List.filter_eq_nil_iff]
          intro x hx
          have := h x hx
          simp; omega
        rw [h2, List.append_nil]
        by_cases e2 : t < n
        · rw [if_pos e2, if_pos (by omega)]
        · rw [if_neg e2, if_neg (by omega)]
  rw [key, if_pos hn]
theorem take_exact {net : NetP} {A B : List Msg} {C : List (Msg × Int)} {t : Nat} {to : Int} (ht : t ≤ 5000) (hn : net.2 = A.map (fun m => (m, (t : Int))) ++ B.map (fun m => (m, (t : Int))) ++ C) (hA : ∀ m ∈ A, m.To ≠ to) (hB : ∀ m ∈ B, m.To = to) (hC : ∀ x ∈ C, (t : Int) < x.2) :
    takeM net t to = B ∧ (takeN net t to).2 = A.map (fun m => (m, (t : Int))) ++ C := by
  have f1 : (A.map (fun m => (m, (t : Int)))).filter (hereP to t) = [] := by
    rw [List.filter_eq_nil_iff]
    intro x hx
    obtain ⟨m, hm, rfl⟩ := List.mem_map.1 hx
    have := hA m hm
    simp [hereP, this]
  have f2 : (B.map (fun m => (m, (t : Int)))).filter (hereP to t) = B.map (fun m => (m, (t : Int))) := by
    rw [List.filter_eq_self]
    intro x hx
    obtain ⟨m, hm, rfl⟩ := List.mem_map.1 hx
    have := hB m hm
    simp [hereP, this]
  have f3 : C.filter (hereP to t) = [] := by
    rw [List.filter_eq_nil_iff]
    intro x hx
    have := hC x hx
    simp [hereP]; omega
  have g1 : (A.map (fun m => (m, (t : Int)))).filter (fun x => !hereP to t x) = A.map (fun m => (m, (t : Int))) := by
    rw [List.filter_eq_self]
    intro x hx
    obtain ⟨m, hm, rfl⟩ := List.mem_map.1 hx
    have := hA m hm
    simp [hereP, this]
  have g2 : (B.map (fun m => (m, (t : Int)))).filter (fun x => !hereP to t x) = [] := by
    rw [List.filter_eq_nil_iff]
    intro x hx
    obtain ⟨m, hm, rfl⟩ := List.mem_map.1 hx
    have := hB m hm
    simp [hereP, this]
  have g3 : C.filter (fun x => !hereP to t x) = C := by
    rw [List.filter_eq_self]
    intro x hx
    have := hC x hx
    simp [hereP]; omega
  constructor
  · unfold takeM
    rw [hn, List.filter_append, List.filter_append, f1, f2, f3, List.nil_append, List.append_nil, bucket_same (t := t) (fun x hx => by obtain ⟨m, _, rfl⟩ := List.mem_map.1 hx; rfl) (by omega), List.map_map]
    simp [Function.comp_def]
  · unfold takeN
    simp only
    rw [hn, List.filter_append, List.filter_append, g1, g2, g3, List.append_nil]
theorem clean_end {i j wj T : Int} {P Q : List Msg} {e : Lk} {g : List Msg} {w : List (Msg × Int)} {bj : Nat} {b : Bool} (h : EndI P Q e g) (hij : 0 ≤ i ∧ i ≤ 4 ∧ 0 ≤ j ∧ j ≤ 4 ∧ i ≠ j) (hP : PutI i j P) (hQ : PutI j i Q)
    (hm : ∀ m ∈ dat T w ++ bea j i wj T b, MsgD j i Q wj m) (hw : wj ≤ P.length) (hl : P.length ≤ 1000) (ho : e.owes = false) (hbw : ((P.length - e.wait.length : Nat) : Int) ≤ wj) (hwq : w.map (·.1) = Q.drop bj) :
    ((dat T w ++ bea j i wj T b).foldl (fun e m => inS e i j m) e).want = advW e.want (dat T w) ∧
    ((dat T w ++ bea j i wj T b).foldl (fun e m => inS e i j m) e).owes = !(dat T w).isEmpty ∧
    ((dat T w ++ bea j i wj T b).foldl (fun e m => inS e i j m) e).wait = e.wait.drop (if b = true then wj.toNat - (P.length - e.wait.length) else 0) := by
  have hE : ∀ m ∈ dat T w ++ bea j i wj T b, inE e i j m = 0 := fun m hmm => (h.recv hij hQ (hm m hmm) hw hl).1
  have hk : ∀ m ∈ dat T w, m.Kind ≠ 3 := fun m hmm => by
    unfold dat at hmm
    obtain ⟨p, hp, rfl⟩ := List.mem_map.1 hmm
    have hpw : p.1 ∈ w.map (·.1) := List.mem_map.2 ⟨p, List.mem_of_mem_take (List.mem_filter.1 hp).1, rfl⟩
    rw [hwq] at hpw
    obtain ⟨k, hk⟩ := List.getElem?_of_mem (List.mem_of_mem_drop hpw)
    exact (hQ _ _ hk).2.2.2.2.1
  obtain ⟨k1, k2, k3, k4⟩ := fold_data (dat T w) e fun m hmm => ⟨hE m (by simp [hmm]), hk m hmm⟩
  rw [List.foldl_append]
  generalize (dat T w).foldl (fun e m => inS e i j m) e = e1 at *
  rw [ho, Bool.false_or] at k3
  have hbs := h.base
  cases b with
  | false => exact ⟨k4, k3, by simp [bea, k1]⟩
  | true =>
    have hmb : (⟨3, j, i, wj, T, []⟩ : Msg) ∈ dat T w ++ bea j i wj T true := by simp [bea]
    have hEb : inE e1 i j ⟨3, j, i, wj, T, []⟩ = 0 := by rw [inE_next k2]; exact hE _ hmb
    have : (bea j i wj T true).foldl (fun e m => inS e i j m) e1 = { e1 with wait := cutW wj e1.wait } := by
      show inS e1 i j _ = _
      rw [inS_beat hEb rfl]
    rw [this]
    refine ⟨k4, k3, ?_⟩
    simp only[if_true]
    rw [k1, beat_drop (seqs_of hP hbs.2) (by omega) (by omega)]
theorem dat_to {i j T : Int} {P : List Msg} {w : List (Msg × Int)} {b : Nat} (hP : PutI i j P) (hw : w.map (·.1) = P.drop b) : ∀ m ∈ dat T w, m.To = j := by
  intro m hmm
  unfold dat at hmm
  obtain ⟨p, hp, rfl⟩ := List.mem_map.1 hmm
  have hpw : p.1 ∈ w.map (·.1) := List.mem_map.2 ⟨p, List.mem_of_mem_take (List.mem_filter.1 hp).1, rfl⟩
  rw [hw] at hpw
  obtain ⟨k, hk⟩ := List.getElem?_of_mem (List.mem_of_mem_drop hpw)
  exact (hP _ _ hk).2.2.1
theorem bea_to {i j w T : Int} {b : Bool} : ∀ m ∈ bea i j w T b, m.To = j := by
  intro m hm
  unfold bea at hm
  split at hm
  · simp at hm; rw [hm]
  · cases hm
theorem outL_clean {t : Int} {i j : Int} {em : Lk} (h : ∀ p ∈ em.wait, p.2 < t) : outL (emptied em) i j t t = dat t (outS (emptied em) t).wait ++ bea i j (outS (emptied em) t).want t em.owes := by
  unfold outL
  have h1 : outM t t (emptied em).wait 8 = dat t (outS (emptied em) t).wait := out_dat h
  rw [h1]; rfl
end Go.Proofs.Ytpdajkbfemcdlaa
namespace Go.Proofs.Ytpdajkbfemcdlaa
open Go.Ge
theorem dat_empty {T : Int} {w : List (Msg × Int)} : ∀ i, i < 8 → i < (lsW w).length → la (lsW w) i = T → (!(dat T w).isEmpty) = true := by
  intro i h8 hi hT
  rw [lsW_len] at hi
  rw [dat_some h8 hi hT]; rfl
theorem clean_first {fs : List Fault} {P0 P1 : List Msg} {s1 s' : Sy} (hf : Early fs) (hdue : ∀ x ∈ s1.net.2, x.2 ≤ 44) (hp : PreI ((44 : Nat) : Int) (lsW s1.e0.wait) ∧ PreI ((44 : Nat) : Int) (lsW s1.e1.wait)) (h1 : SyI P0 P1 ((44 : Nat) : Int) s1) (d : TickD fs 44 P0 P1 s1 s') : ∃ b0 b1, CleanI 45 s' b0 b1 := by
  obtain ⟨em0, em1, c0, c1, e0, e1, hnet⟩ := net_after d
  have hto := h1.to
  have l0 : ∀ p ∈ em0.wait, p.2 < ((44 : Nat) : Int) := by
    obtain ⟨c, _, hc⟩ := c0
    rw [hc]
    refine PreI.lt ?_ (by omega)
    rw [lsW_drop]; exact hp.1.drop c
  have l1 : ∀ p ∈ em1.wait, p.2 < ((44 : Nat) : Int) := by
    obtain ⟨c, _, hc⟩ := c1
    rw [hc]
    refine PreI.lt ?_ (by omega)
    rw [lsW_drop]; exact hp.2.drop c
  have q0 := outL_clean (i := 0) (j := 1) l0
  have q1 := outL_clean (i := 1) (j := 0) l1
  have o0 : ∀ m ∈ outL (emptied em0) 0 1 ((44 : Nat) : Int) ((44 : Nat) : Int), True := fun _ _ => trivial
  rw [late_flat hf (by omega), late_flat hf (by omega)] at hnet
  have hold : (takeN (s1.net.1, (takeN s1.net ((44 : Nat) : Int) 0).2 ++ (outL (emptied em0) 0 1 ((44 : Nat) : Int) ((44 : Nat) : Int)).map fun m => (m, ((44 : Nat) : Int) + 1)) ((44 : Nat) : Int) 1).2 = (outL (emptied em0) 0 1 ((44 : Nat) : Int) ((44 : Nat) : Int)).map fun m => (m, ((44 : Nat) : Int) + 1) := by
    unfold takeN
    simp only
    rw [List.filter_append]
    have f1 : ((s1.net.2.filter fun x => !hereP 0 ((44 : Nat) : Int) x).filter fun x => !hereP 1 ((44 : Nat) : Int) x) = [] := by
      rw [List.filter_filter, List.filter_eq_nil_iff]
      intro x hx
      have h2 := hdue x hx
      have h4 : x.2 ≤ ((44 : Nat) : Int) := by omega
      rcases hto x hx with h3 | h3 <;> simp [hereP, h3] <;> omega
    have f2 : (((outL (emptied em0) 0 1 ((44 : Nat) : Int) ((44 : Nat) : Int)).map fun m => (m, ((44 : Nat) : Int) + 1)).filter fun x => !hereP 1 ((44 : Nat) : Int) x) = (outL (emptied em0) 0 1 ((44 : Nat) : Int) ((44 : Nat) : Int)).map fun m => (m, ((44 : Nat) : Int) + 1) := by
      rw [List.filter_eq_self]
      intro x hx
      obtain ⟨m, _, rfl⟩ := List.mem_map.1 hx
      simp [hereP]
    rw [f1, f2, List.nil_append]
  rw [hold, ← List.map_append, q0, q1] at hnet
  refine ⟨em0.owes, em1.owes, ?_, ?_, ?_, by rw [e0]; rfl, by rw [e1]; rfl⟩
  · rw [hnet, e0, e1]; rfl
  · rw [e0]; exact out_win (by omega) hp.1 c0
  · rw [e1]; exact out_win (by omega) hp.2 c1
theorem clean_step {fs : List Fault} {t : Nat} {P0 P1 : List Msg} {s s' : Sy} {b0 b1 : Bool} (hf : Early fs) (ht : 45 ≤ t) (ht2 : t ≤ 2000) (hc : CleanI t s b0 b1) (hi : SyI P0 P1 (t : Nat) s) (hb : BwI P0 P1 s) (d : TickD fs t P0 P1 s s') :
    ∃ (b0' b1' : Bool) (r0 r1 r0' r1' : Nat), CleanI (t + 1) s' b0' b1' ∧ s.e0.want = r0 ∧ s.e1.want = r1 ∧ s'.e0.want = r0' ∧ s'.e1.want = r1' ∧
      (0 < Mz ((t : Int) - 1) P0.length r1 (lsW s.e0.wait) b1 → Mz t P0.length r1' (lsW s'.e0.wait) b1' < Mz ((t : Int) - 1) P0.length r1 (lsW s.e0.wait) b1) ∧
      (0 < Mz ((t : Int) - 1) P1.length r0 (lsW s.e1.wait) b0 → Mz t P1.length r0' (lsW s'.e1.wait) b0' < Mz ((t : Int) - 1) P1.length r0 (lsW s.e1.wait) b0) := by
  obtain ⟨_, hi', em0, em1, s2, d0, hs2, hi2, d1, hs'⟩ := d
  have hbs0 := hi.e0.base
  have hbs1 := hi.e1.base
  have hwl0 := hi.e0.want_le
  have hwl1 := hi.e1.want_le
  have hL := hi.l0
  obtain ⟨r0, hr0⟩ : ∃ r0 : Nat, s.e0.want = r0 := ⟨s.e0.want.toNat, by omega⟩
  obtain ⟨r1, hr1⟩ : ∃ r1 : Nat, s.e1.want = r1 := ⟨s.e1.want.toNat, by omega⟩
  obtain ⟨A0, hA0⟩ : ∃ A0, A0 = dat ((t : Int) - 1) s.e0.wait ++ bea 0 1 s.e0.want ((t : Int) - 1) b0 := ⟨_, rfl⟩
  obtain ⟨A1, hA1⟩ : ∃ A1, A1 = dat ((t : Int) - 1) s.e1.wait ++ bea 1 0 s.e1.want ((t : Int) - 1) b1 := ⟨_, rfl⟩
  have hnet := hc.net
  rw [← hA0, ← hA1, List.map_append] at hnet
  have to0 : ∀ m ∈ A0, m.To = 1 := fun m hm => by
    rw [hA0] at hm
    rcases List.mem_append.1 hm with hm | hm
    · exact dat_to hi.p0 hbs0.2 m hm
    · exact bea_to m hm
  have to1 : ∀ m ∈ A1, m.To = 0 := fun m hm => by
    rw [hA1] at hm
    rcases List.mem_append.1 hm with hm | hm
    · exact dat_to hi.p1 hbs1.2 m hm
    · exact bea_to m hm
  have md0 : ∀ m ∈ A0, MsgD 0 1 P0 s.e0.want m := fun m hm => by
    refine (hi.net (m, (t : Int)) (by rw [hnet]; simp [hm])).resolve_right fun h => ?_
    have := (h.fields hi.p1).2
    have := to0 m hm
    simp only at *; omega
  have md1 : ∀ m ∈ A1, MsgD 1 0 P1 s.e1.want m := fun m hm => by
    refine (hi.net (m, (t : Int)) (by rw [hnet]; simp [hm])).resolve_left fun h => ?_
    have := (h.fields hi.p0).2
    have := to1 m hm
    simp only at *; omega
  -- the first end
  obtain ⟨tk0, tr0⟩ := take_exact (net := s.net) (A := A0) (B := A1) (C := []) (t := t) (to := 0) (by omega) (by rw [hnet, List.append_nil]) (fun m hm => by rw [to0 m hm]; decide) to1 (fun x hx => by cases hx)
  rw [List.append_nil] at tr0
  have hf0 : em0 = A1.foldl (fun e m => inS e 0 1 m) s.e0 := by rw [← tk0]; exact d0.fold
  obtain ⟨x1, x2, x3⟩ := clean_end (i := 0) (j := 1) (wj := s.e1.want) (T := (t : Int) - 1) (w := s.e1.wait) (b := b1) hi.e0 (by omega) hi.p0 hi.p1 (by rw [← hA1]; exact md1) hwl1.1 (by omega) hc.o0 hb.l0 hbs1.2
  rw [← hA1, ← hf0] at x1 x2 x3
  have pre0 := hc.w0.pre (if b1 = true then s.e1.want.toNat - (P0.length - s.e0.wait.length) else 0)
  rw [← lsW_drop, ← x3] at pre0
  have lt0 := pre0.lt (by omega)
  have q0 : s2.e0 = outS (emptied em0) t := by rw [hs2]
  have q1 : s2.e1 = s.e1 := by rw [hs2]
  have q2 : s2.net.2 = A0.map (fun m => (m, (t : Int))) ++ [].map (fun m => (m, (t : Int))) ++ (outL (emptied em0) 0 1 t t).map (fun m => (m, (t : Int) + 1)) := by
    rw [hs2]
    simp only
    rw [sendF_2, tr0, late_flat hf (by omega)]; simp
  -- the second end
  obtain ⟨tk1, tr1⟩ := take_exact (net := s2.net) (A := []) (B := A0) (C := (outL (emptied em0) 0 1 t t).map (fun m => (m, (t : Int) + 1))) (t := t) (to := 1) (by omega) (by rw [q2]; simp) (fun m hm => by cases hm) to0 (fun x hx => by obtain ⟨m, _, rfl⟩ := List.mem_map.1 hx; simp only; omega)
  rw [List.map_nil, List.nil_append] at tr1
  have hf1 : em1 = A0.foldl (fun e m => inS e 1 0 m) s.e1 := by rw [← tk1, ← q1]; exact d1.fold
  obtain ⟨y1, y2, y3⟩ := clean_end (i := 1) (j := 0) (wj := s.e0.want) (T := (t : Int) - 1) (w := s.e0.wait) (b := b0) hi.e1 (by omega) hi.p1 hi.p0 (by rw [← hA0]; exact md0) hwl0.1 (by omega) hc.o1 hb.l1 hbs0.2
  rw [← hA0, ← hf1] at y1 y2 y3
  have pre1 := hc.w1.pre (if b0 = true then s.e0.want.toNat - (P1.length - s.e1.wait.length) else 0)
  rw [← lsW_drop, ← y3] at pre1
  have lt1 := pre1.lt (by omega)
  have r0e : s'.e0 = outS (emptied em0) t := by rw [hs']; exact q0
  have r1e : s'.e1 = outS (emptied em1) t := by rw [hs']
  have r2e : s'.net.2 = (outL (emptied em0) 0 1 t t).map (fun m => (m, (t : Int) + 1)) ++ (outL (emptied em1) 1 0 t t).map (fun m => (m, (t : Int) + 1)) := by
    rw [hs']
    simp only
    rw [sendF_2, tr1, late_flat hf (by omega)]
  have et : (((t + 1 : Nat) : Int) - 1) = (t : Int) := by omega
  have L0 : lsW s'.e0.wait = outI t ((lsW s.e0.wait).drop (if b1 = true then r1 - (P0.length - (lsW s.e0.wait).length) else 0)) := by
    rw [r0e]
    show lsW (outW t em0.wait 8) = _
    rw [lsW_out, x3, lsW_drop, hr1, Int.toNat_natCast, lsW_len]
  have L1 : lsW s'.e1.wait = outI t ((lsW s.e1.wait).drop (if b0 = true then r0 - (P1.length - (lsW s.e1.wait).length) else 0)) := by
    rw [r1e]
    show lsW (outW t em1.wait 8) = _
    rw [lsW_out, y3, lsW_drop, hr0, Int.toNat_natCast, lsW_len]
  obtain ⟨r0', v1, v2, v3⟩ := adv_dat (T := (t : Int) - 1) (r := r0) (seqs_of hi.p1 hbs1.2) (by have := hb.l1; omega)
  obtain ⟨r1', u1, u2, u3⟩ := adv_dat (T := (t : Int) - 1) (r := r1) (seqs_of hi.p0 hbs0.2) (by have := hb.l0; omega)
  rw [hr0] at x1
  rw [v1] at x1
  rw [hr1] at y1
  rw [u1] at y1
  have hl0 := hb.l0
  have hl1 := hb.l1
  have hh0 := hb.h0
  have hh1 := hb.h1
  have bl0 := hbs0.1
  have bl1 := hbs1.1
  refine ⟨em0.owes, em1.owes, r0, r1, r0', r1', ⟨?_, ?_, ?_, by rw [r0e]; rfl, by rw [r1e]; rfl⟩, hr0, hr1, by rw [r0e]; exact x1, by rw [r1e]; exact y1, ?_, ?_⟩
  · rw [r2e, outL_clean lt0, outL_clean lt1, r0e, r1e, ← List.map_append, et]
    have e2 : ((t + 1 : Nat) : Int) = (t : Int) + 1 := by omega
    rw [e2]
  · rw [et, L0]
    have := (hc.w0.pre (if b1 = true then r1 - (P0.length - (lsW s.e0.wait).length) else 0)).win (by omega)
    exact this
  · rw [et, L1]
    have := (hc.w1.pre (if b0 = true then r0 - (P1.length - (lsW s.e1.wait).length) else 0)).win (by omega)
    exact this
  · intro hpos
    rw [L0]
    have := Mz_step (T := (t : Int) - 1) (n := P0.length) (r := r1) (r' := r1') (L := lsW s.e0.wait) (bt := b1) (bt' := em1.owes) (by rw [lsW_len]; exact bl0) (by rw [lsW_len]; omega) (by omega) (by rw [lsW_len]; omega) hc.w0 rfl
      (fun _ a b => by
        rw [lsW_len] at a b ⊢
        obtain ⟨k1, k2, k3, k4⟩ := u2 a (by omega) b
        exact ⟨k1, by omega, k3, fun c1 c2 => k4 (by omega) c2⟩)
      (fun q => u3 fun h => q (by rw [lsW_len]; exact ⟨by omega, h.1, h.2.2⟩))
      (fun i h8 hil hT => by rw [y2]; exact dat_empty i h8 hil hT) hpos
    rwa [show (t : Int) - 1 + 1 = t by omega] at this
  · intro hpos
    rw [L1]
    have := Mz_step (T := (t : Int) - 1) (n := P1.length) (r := r0) (r' := r0') (L := lsW s.e1.wait) (bt := b0) (bt' := em0.owes) (by rw [lsW_len]; exact bl1) (by rw [lsW_len]; omega) (by omega) (by rw [lsW_len]; omega) hc.w1 rfl
      (fun _ a b => by
        rw [lsW_len] at a b ⊢
        obtain ⟨k1, k2, k3, k4⟩ := v2 a (by omega) b
        exact ⟨k1, by omega, k3, fun c1 c2 => k4 (by omega) c2⟩)
      (fun q => v3 fun h => q (by rw [lsW_len]; exact ⟨by omega, h.1, h.2.2⟩))
      (fun i h8 hil hT => by rw [x2]; exact dat_empty i h8 hil hT) hpos
    rwa [show (t : Int) - 1 + 1 = t by omega] at this
end Go.Proofs.Ytpdajkbfemcdlaa
namespace Go.Proofs.Ytpdajkbfemcdlaa
open Go.Ge
theorem putQ_len : ∀ (ps : List Int) (t : Nat), (putQ 0 ps t).length + (putQ 1 ps t).length = ps.length
  | [], _ => rfl
  | p :: ps, t => by
    have ih := putQ_len ps (t + 1)
    unfold putQ
    have : p % 2 = 0 ∨ p % 2 = 1 := by omega
    rcases this with h | h
    · rw [if_neg (by simpa using h), if_pos (by omega)]; simp only[List.length_cons]; omega
    · rw [if_pos (by omega), if_neg (by simpa using h)]; simp only[List.length_cons]; omega
theorem PutT.len {puts : List Int} {T : Nat} {P0 P1 : List Msg} (hT : puts.length ≤ T) (h0 : PutT 0 puts T P0) (h1 : PutT 1 puts T P1) : P0.length + P1.length = puts.length := by
  unfold PutT at h0 h1
  rw [List.drop_of_length_le (by omega), show putQ 0 [] T = [] from rfl, List.append_nil] at h0
  rw [List.drop_of_length_le (by omega), show putQ 1 [] T = [] from rfl, List.append_nil] at h1
  have := putQ_len puts 0
  rw [h0, h1, List.length_map, List.length_map] at this
  exact this
theorem BwI.init : BwI [] [] sy0 := ⟨by decide, by decide, by decide, by decide, fun x hx => by cases hx⟩
theorem EarlyI.init (fs : List Fault) : EarlyI fs 0 sy0 := ⟨fun i hi => by simp [lsW, sy0, lk0] at hi, fun i hi => by simp [lsW, sy0, lk0] at hi, rfl, rfl, (fun x hx => by cases hx), fun j _ => by simp [cge, sy0]⟩
structure PhA (fs : List Fault) (puts : List Int) (t : Nat) (P0 P1 : List Msg) (s : Sy) : Prop where
  inv : SyI P0 P1 (t : Nat) s
  len : P0.length + P1.length ≤ t
  q0 : PutT 0 puts t P0
  q1 : PutT 1 puts t P1
  bw : BwI P0 P1 s
  ea : EarlyI fs t s
theorem net_few {fs : List Fault} {t : Nat} {s : Sy} (h : EarlyI fs t s) : s.net.2.length ≤ 180 := by
  have h1 := h.cnt 0 (by omega)
  rw [cge_all (fun x hx => by have := h.due x hx; omega)] at h1
  omega
theorem phA_step {fs : List Fault} {puts : List Int} {t : Nat} {P0 P1 : List Msg} {s : Sy} (hf : Early fs) (h : PhA fs puts t P0 P1 s) (ht : t < 44) : ∃ s' P0' P1', tickP fs puts t s = some s' ∧ PhA fs puts (t + 1) P0' P1' s' := by
  obtain ⟨s1, P0', P1', r1, hi1, hl1, q0', q1', hn1, _, _, hc⟩ := h.inv.put h.len (by omega) h.q0 h.q1
  have hc2 : s1 = s ∨ ((∃ m, s1.e1 = s.e1 ∧ s1.e0 = { s.e0 with next := s.e0.next + 1, wait := s.e0.wait ++ [(m, -1)] }) ∨ (∃ m, s1.e0 = s.e0 ∧ s1.e1 = { s.e1 with next := s.e1.next + 1, wait := s.e1.wait ++ [(m, -1)] })) := hc.imp id (·.2)
  have hb1 := put_bw (puts := puts) h.bw h.inv hi1 hn1 hc2
  obtain ⟨p0, p1, _, _⟩ := put_pre h.ea.w0 h.ea.w1 hc2
  obtain ⟨s', d⟩ := tick_of (fs := fs) hi1 (by omega) (by rw [hn1]; have := net_few h.ea; omega)
  refine ⟨s', P0', P1', ?_, d.inv.later (by omega), hl1, q0', q1', tick_bw hi1 hb1 d, early_step hf h.ea ht hn1 ⟨p0, p1⟩ hi1 d⟩
  unfold tickP
  rw [r1, Option.bind_some]
  exact d.run
structure PhC (fs : List Fault) (puts : List Int) (t : Nat) (P0 P1 : List Msg) (s : Sy) : Prop where
  inv : SyI P0 P1 (t : Nat) s
  len : P0.length + P1.length = puts.length
  bw : BwI P0 P1 s
  gt : s.e0.got = [] ∧ s.e1.got = []
  cl : ∃ (b0 b1 : Bool) (r0 r1 : Nat), CleanI t s b0 b1 ∧ s.e0.want = r0 ∧ s.e1.want = r1 ∧ Mz ((t : Int) - 1) P0.length r1 (lsW s.e0.wait) b1 ≤ 111 - t ∧ Mz ((t : Int) - 1) P1.length r0 (lsW s.e1.wait) b0 ≤ 111 - t
theorem put_none {puts : List Int} {t : Nat} {s : Sy} (h : puts.length ≤ t) : putP puts t s = some s := by
  unfold putP
  rw [List.getElem?_eq_none h]
theorem phC_first {fs : List Fault} {puts : List Int} {P0 P1 : List Msg} {s : Sy} (hf : Early fs) (hpl : puts.length ≤ 20) (h : PhA fs puts 44 P0 P1 s) : ∃ s', tickP fs puts 44 s = some s' ∧ PhC fs puts 45 P0 P1 s' := by
  obtain ⟨s', d⟩ := tick_of (fs := fs) h.inv (by omega) (by have := net_few h.ea; omega)
  have p0 := h.ea.w0.pre 0
  have p1 := h.ea.w1.pre 0
  rw [List.drop_zero] at p0 p1
  obtain ⟨em0, em1, _, _, f0, f1, _⟩ := net_after d
  obtain ⟨b0, b1, hc⟩ := clean_first hf (fun x hx => (h.ea.due x hx).2.2 (by omega)) ⟨p0, p1⟩ h.inv d
  have hb := tick_bw h.inv h.bw d
  have hi := d.inv.later (t' := ((45 : Nat) : Int)) (by omega)
  have hlen := PutT.len (by omega) h.q0 h.q1
  have w0 := hi.e0.want_le
  have w1 := hi.e1.want_le
  have hl0 := hb.l0
  have hl1 := hb.l1
  have bs0 := hi.e0.base.1
  have bs1 := hi.e1.base.1
  refine ⟨s', by unfold tickP; rw [put_none (by omega), Option.bind_some]; exact d.run, hi, hlen, hb, ⟨by rw [f0]; rfl, by rw [f1]; rfl⟩, b0, b1, s'.e0.want.toNat, s'.e1.want.toNat, hc, by omega, by omega, ?_, ?_⟩
  · have := Mz_le (T := ((45 : Nat) : Int) - 1) (n := P0.length) (r := s'.e1.want.toNat) (L := lsW s'.e0.wait) (bt := b1) (by rw [lsW_len]; exact bs0) (by rw [lsW_len]; omega) hc.w0
    omega
  · have := Mz_le (T := ((45 : Nat) : Int) - 1) (n := P1.length) (r := s'.e0.want.toNat) (L := lsW s'.e1.wait) (bt := b0) (by rw [lsW_len]; exact bs1) (by rw [lsW_len]; omega) hc.w1
    omega
theorem dat_len (T : Int) (w : List (Msg × Int)) : (dat T w).length ≤ 8 := by
  unfold dat
  rw [List.length_map]
  exact Nat.le_trans (List.length_filter_le _ _) (by simp; omega)
theorem bea_len (i j w T : Int) (b : Bool) : (bea i j w T b).length ≤ 1 := by unfold bea; split <;> simp
theorem phC_step {fs : List Fault} {puts : List Int} {t : Nat} {P0 P1 : List Msg} {s : Sy} (hf : Early fs) (hpl : puts.length ≤ 20) (h : PhC fs puts t P0 P1 s) (ht : 45 ≤ t) (ht2 : t ≤ 2000) : ∃ s', tickP fs puts t s = some s' ∧ PhC fs puts (t + 1) P0 P1 s' := by
  obtain ⟨hi, hlen, hb, _, b0, b1, r0, r1, hc, hr0, hr1, hm0, hm1⟩ := h
  obtain ⟨s', d⟩ := tick_of (fs := fs) hi (by omega) (by
    rw [hc.net, List.length_map, List.length_append, List.length_append, List.length_append]
    have a1 := dat_len ((t : Int) - 1) s.e0.wait
    have a2 := dat_len ((t : Int) - 1) s.e1.wait
    have a3 := bea_len 0 1 s.e0.want ((t : Int) - 1) b0
    have a4 := bea_len 1 0 s.e1.want ((t : Int) - 1) b1
    omega)
  have hb' := tick_bw hi hb d
  have hrun := d.run
  have hi' := d.inv.later (t' := ((t + 1 : Nat) : Int)) (by omega)
  obtain ⟨b0', b1', q0, q1, r0', r1', hc', e0, e1, e2, e3, s0, s1⟩ := clean_step hf ht ht2 hc hi hb d
  have h0 : q0 = r0 := by omega
  have h1 : q1 = r1 := by omega
  subst h0 h1
  have w0 := hi'.e0.want_le
  have w1 := hi'.e1.want_le
  have v0 := hi.e0.want_le
  have v1 := hi.e1.want_le
  have bs0 := hi.e0.base.1
  have bs1 := hi.e1.base.1
  have hl0 := hb.l0
  have hl1 := hb.l1
  have et : (((t + 1 : Nat) : Int) - 1) = (t : Int) := by omega
  obtain ⟨_, _, em0, em1, s2, d0, hs2, _, d1, hs'⟩ := d
  have hw0 := d0.want
  have hw1 := d1.want
  obtain ⟨c0, _, hc0⟩ := d0.cut
  obtain ⟨c1, _, hc1⟩ := d1.cut
  have f0 : s'.e0 = outS (emptied em0) t := by rw [hs', hs2]
  have f1 : s'.e1 = outS (emptied em1) t := by rw [hs']
  have g1 : s2.e1 = s.e1 := by rw [hs2]
  have z0 : (lsW s'.e0.wait).length ≤ (lsW s.e0.wait).length := by
    rw [f0]
    show (lsW (outW t em0.wait 8)).length ≤ _
    rw [lsW_out, outI_len, hc0, lsW_drop, List.length_drop]; omega
  have z1 : (lsW s'.e1.wait).length ≤ (lsW s.e1.wait).length := by
    rw [f1]
    show (lsW (outW t em1.wait 8)).length ≤ _
    rw [lsW_out, outI_len, hc1, lsW_drop, List.length_drop, g1]; omega
  have k0 : q0 ≤ r0' := by
    have : s'.e0.want = em0.want := by rw [f0]; rfl
    omega
  have k1 : q1 ≤ r1' := by
    have : s'.e1.want = em1.want := by rw [f1]; rfl
    rw [g1] at hw1
    omega
  refine ⟨s', by unfold tickP; rw [put_none (by omega), Option.bind_some]; exact hrun, hi', hlen, hb', ⟨by rw [f0]; rfl, by rw [f1]; rfl⟩, b0', b1', r0', r1', hc', e2, e3, ?_, ?_⟩
  · rw [et]
    by_cases hp : 0 < Mz ((t : Int) - 1) P0.length q1 (lsW s.e0.wait) b1
    · have := s0 hp; omega
    · obtain ⟨a1, a2⟩ := Mz_zero (by rw [lsW_len]; exact bs0) (by rw [lsW_len]; omega) (by omega) hc.w0 (Nat.eq_zero_of_not_pos hp)
      rw [a2] at z0
      have : Mz t P0.length r1' (lsW s'.e0.wait) b1' = 0 := by
        unfold Mz
        rw [if_neg (by omega), if_neg (by simp only[List.length_nil] at z0; omega)]
      omega
  · rw [et]
    by_cases hp : 0 < Mz ((t : Int) - 1) P1.length q0 (lsW s.e1.wait) b0
    · have := s1 hp; omega
    · obtain ⟨a1, a2⟩ := Mz_zero (by rw [lsW_len]; exact bs1) (by rw [lsW_len]; omega) (by omega) hc.w1 (Nat.eq_zero_of_not_pos hp)
      rw [a2] at z1
      have : Mz t P1.length r0' (lsW s'.e1.wait) b0' = 0 := by
        unfold Mz
        rw [if_neg (by omega), if_neg (by simp only[List.length_nil] at z1; omega)]
      omega
theorem runA {fs : List Fault} {puts : List Int} (hf : Early fs) (k : Nat) : ∀ (d t : Nat) (P0 P1 : List Msg) (s : Sy), t + k = 44 → PhA fs puts t P0 P1 s → ∃ s' P0' P1', runP fs puts (k + d) t s = runP fs puts d 44 s' ∧ PhA fs puts 44 P0' P1' s' := by
  induction k with
  | zero =>
    intro d t P0 P1 s ht h
    have : t = 44 := by omega
    subst this
    exact ⟨s, P0, P1, by rw [Nat.zero_add], h⟩
  | succ k ih =>
    intro d t P0 P1 s ht h
    obtain ⟨s1, P01, P11, r, h1⟩ := phA_step hf h (by omega)
    obtain ⟨s2, P02, P12, r2, h2⟩ := ih d (t + 1) P01 P11 s1 (by omega) h1
    refine ⟨s2, P02, P12, ?_, h2⟩
    rw [show k + 1 + d = (k + d) + 1 by omega]
    conv => lhs; unfold runP
    rw [r, Option.bind_some, r2]
theorem runC {fs : List Fault} {puts : List Int} (hf : Early fs) (hpl : puts.length ≤ 20) (k : Nat) : ∀ (t : Nat) (P0 P1 : List Msg) (s : Sy), t + k = 120 → 45 ≤ t → PhC fs puts t P0 P1 s → ∃ s', runP fs puts k t s = some s' ∧ PhC fs puts 120 P0 P1 s' := by
  induction k with
  | zero =>
    intro t P0 P1 s ht _ h
    have : t = 120 := by omega
    subst this
    exact ⟨s, by unfold runP; rfl, h⟩
  | succ k ih =>
    intro t P0 P1 s ht h45 h
    obtain ⟨s1, r, h1⟩ := phC_step hf hpl h h45 (by omega)
    obtain ⟨s2, r2, h2⟩ := ih (t + 1) P0 P1 s1 (by omega) (by omega) h1
    exact ⟨s2, by unfold runP; rw [r, Option.bind_some, r2], h2⟩
theorem LinkAll_plain (fs : List Fault) (puts : List Int) (hf : Early fs) (hpl : puts.length ≤ 20) : ∃ s, linkP fs puts 120 = some s ∧ s.g0.length + s.g1.length = puts.length ∧ s.e0.wait = [] ∧ s.e1.wait = [] := by
  obtain ⟨s1, P0, P1, r1, h1⟩ := runA (puts := puts) hf 44 76 0 [] [] sy0 rfl ⟨SyI.init, by simp, by simp [PutT], by simp [PutT], BwI.init, EarlyI.init fs⟩
  obtain ⟨s2, r2, h2⟩ := phC_first hf hpl h1
  obtain ⟨s3, r3, h3⟩ := runC hf hpl 75 45 P0 P1 s2 rfl (by omega) h2
  obtain ⟨hi, hlen, hb, ⟨t0, t1⟩, b0, b1, r0, r1', hc, hr0, hr1, hm0, hm1⟩ := h3
  have bs0 := hi.e0.base.1
  have bs1 := hi.e1.base.1
  have hl0 := hb.l0
  have hl1 := hb.l1
  have v0 := hi.e0.want_le
  have v1 := hi.e1.want_le
  obtain ⟨a1, a2⟩ := Mz_zero (T := ((120 : Nat) : Int) - 1) (n := P0.length) (r := r1') (L := lsW s3.e0.wait) (bt := b1) (by rw [lsW_len]; exact bs0) (by rw [lsW_len]; omega) (by omega) hc.w0 (by omega)
  obtain ⟨a3, a4⟩ := Mz_zero (T := ((120 : Nat) : Int) - 1) (n := P1.length) (r := r0) (L := lsW s3.e1.wait) (bt := b0) (by rw [lsW_len]; exact bs1) (by rw [lsW_len]; omega) (by omega) hc.w1 (by omega)
  have g0 : (s3.g0 ++ s3.e0.got).length = r0 := by
    obtain ⟨_, _, w, hw, hw2, hg⟩ := hi.e0
    have := congrArg List.length hg
    rw [List.length_map, List.length_take] at this
    omega
  have g1 : (s3.g1 ++ s3.e1.got).length = r1' := by
    obtain ⟨_, _, w, hw, hw2, hg⟩ := hi.e1
    have := congrArg List.length hg
    rw [List.length_map, List.length_take] at this
    omega
  rw [t0, List.append_nil] at g0
  rw [t1, List.append_nil] at g1
  refine ⟨s3, ?_, by omega, List.map_eq_nil_iff.1 a2, List.map_eq_nil_iff.1 a4⟩
  unfold linkP
  rw [show (120 : Nat) = 44 + 76 from rfl, r1]
  unfold runP
  rw [r2, Option.bind_some, r3]
end Go.Proofs.Ytpdajkbfemcdlaa
set_option maxRecDepth 10000
namespace Go.Proofs.Ytpdajkbfemcdlaa
open Go.Ge
def fewF (f : Fault) : Fault := ⟨f.Tick % 40, f.Kind % 3, f.N % 5⟩
theorem few_early (l : List Fault) : Early (l.map fewF) := by
  intro f hf
  obtain ⟨g, _, rfl⟩ := List.mem_map.1 hf
  unfold fewF
  simp only
  omega
def FewV (v : AVal) (l : List Fault) : Prop := v = .lst .nil [] ∧ l = [] ∨ v = .lst (.app 3) (faultsA l)
set_option maxHeartbeats 4000000 in
theorem LinkAll_law (o q : Own) (fs : List Fault) (puts : List Int) (ho : Rdn o fs) (hfl : fs.length ≤ 5864062014805) (hfw : ∀ f ∈ fs, f.wf) (hq : Rdo q) (hp : ∀ c ∈ puts, inI64 c) (hpl : puts.length ≤ 17592186044416) :
    ACalls Try.prog F.gantkeep5_LinkAll [.lst o (faultsA fs), .lst q (ints .i64 puts)] [] (fun r _ => r = .bool true) := by
  have ho1 := ho.1
  have hpm : (ints .i64 puts).length = puts.length := List.length_map _
  have hfm : (faultsA fs).length = fs.length := List.length_map _
  have g1 : Int.toNat 1 = 1 := rfl
  have g2 : ((2 : Nat) : Int) = 2 := rfl
  refine ACalls.of_aw Try.func20 K.gantkeep5_LinkAll (by simp [Try.f20]) ?_
  generalize hQ : retQ R.gantkeep5_LinkAll _ = Q
  simp (disch:=first|assumption|omega) only[C.gantkeep5_LinkAll,go_sem,↓reduceIte,Nat.reduceLeDiff,reduceIte,Int.reduceMul,Nat.reduceMul]
  refine callG_ok (linked_first _) (by simp (disch:=first|assumption|omega) only[go_sem]) ?_
  rintro _ h1 ⟨q0, q1, xs0, xs1, hq0, hq1, hx1, rfl⟩
  have hr0 : Ge.rdc (.lst q0 xs0) = .lst q0 xs0 := by rcases hq0 with rfl | rfl <;> rfl
  have hr1 : Ge.rdc (.lst q1 xs1) = .lst q1 xs1 := by rcases hq1 with rfl | rfl <;> rfl
  have hv1 : rdv (.lst q1 xs1) = .lst q1 xs1 := by rcases hq1 with rfl | rfl <;> rfl
  have c11 : ((1 : Nat) : Int) = 1 := rfl
  obtain ⟨n, hn⟩ : ∃ n, n = min puts.length 20 := ⟨_, rfl⟩
  have hmin : (if (20 : Int) < puts.length then (20 : Int) else puts.length) = (n : Int) := by split <;> omega
  have htk : List.take n (ints .i64 puts) = ints .i64 (puts.take n) := by unfold ints; rw [List.map_take]
  obtain ⟨m, hm⟩ : ∃ m, m = min fs.length 12 := ⟨_, rfl⟩
  have hmin2 : (if (12 : Int) < fs.length then (12 : Int) else fs.length) = (m : Int) := by split <;> omega
  have htk2 : List.take m (faultsA fs) = faultsA (fs.take m) := by unfold faultsA; rw [List.map_take]
  simp (disch:=first|assumption|omega) only[fillV,hr1,hv1,hx1,g1,g2,c11,hpm,hmin,List.drop_zero,Nat.sub_zero,htk,go_sem,↓reduceIte,Nat.reduceEqDiff,reduceCtorEq,Nat.reduceAdd,Nat.reduceLeDiff,Nat.reduceLT,reduceIte,Int.reduceLT,Int.reduceLE,Int.reduceAdd,Int.reduceMul,Nat.reduceMul]
  refine ⟨⟨by omega, fun x hx => by obtain ⟨c, _, rfl⟩ := List.mem_map.1 hx; rfl⟩, ?_⟩
  simp (disch:=first|assumption|omega) only[hmin2,htk2,go_sem]
  refine ⟨⟨by omega, fun x hx => by obtain ⟨c, _, rfl⟩ := List.mem_map.1 hx; rfl⟩, ?_⟩
  obtain ⟨F, hF⟩ : ∃ F, F = fs.take m := ⟨_, rfl⟩
  have hFl : F.length = m := by rw [hF, List.length_take]; omega
  have hFm : (faultsA F).length = m := by rw [show (faultsA F).length = F.length from List.length_map _, hFl]
  have hFw : ∀ f ∈ F, f.wf := fun f hf => hfw f (by rw [hF] at hf; exact List.mem_of_mem_take hf)
  have dl : ∀ s o l, drV s (.lst o l) = .lst o l := fun _ _ _ => rfl
  rw [← hF]
  have hptk : ∀ c ∈ puts.take n, inI64 c := fun c hc => hp c (List.mem_of_mem_take hc)
  have hltk : (puts.take n).length ≤ 1000 := by rw [List.length_take]; omega
  have hnl : (puts.take n).length = n := by rw [List.length_take]; omega
  refine aw_count (fun d S => ∃ i : Nat, i + d = m ∧ S.env 44 = .int .i64 i ∧ S.env 43 = .int .i64 m ∧ S.env 42 = .lst .sh (faultsA F) ∧ S.env 1 = .lst .sh (ints .i64 (puts.take n)) ∧ FewV (S.env 8) ((F.take i).map fewF)) (n := m)
    ⟨0, by omega, by simp (disch:=first|assumption|omega) only[go_sem,↓reduceIte,reduceIte], by simp (disch:=first|assumption|omega) only[hFl,go_sem,↓reduceIte,Nat.reduceEqDiff,reduceIte], by simp (disch:=first|assumption|omega) only[go_sem,↓reduceIte,Nat.reduceEqDiff,reduceIte], by simp (disch:=first|assumption|omega) only[go_sem,↓reduceIte,Nat.reduceEqDiff,reduceIte], .inl ⟨by simp (disch:=first|assumption|omega) only[go_sem,↓reduceIte,Nat.reduceEqDiff,reduceIte], rfl⟩⟩ ?_
  rintro d S ⟨i, hi, e44, e43, e42, e1, hfv⟩
  by_cases hlt : (i : Int) < m
  · have hi1 : i < F.length := by omega
    have hat := at_fault hi1
    have hw := hFw _ (List.getElem_mem hi1)
    have htki : (F.take (i + 1)).map fewF = (F.take i).map fewF ++ [fewF F[i]] := by rw [List.take_add_one, List.getElem?_eq_getElem hi1, List.map_append]; rfl
    have hlm : ((F.take i).map fewF).length ≤ 12 := by rw [List.length_map, List.length_take]; omega
    have hlm2 : (faultsA ((F.take i).map fewF)).length ≤ 12 := by unfold faultsA; rw [List.length_map]; exact hlm
    generalize F[i] = f at *
    obtain ⟨f1, f2, f3⟩ := hw
    rcases hfv with ⟨e8, e8'⟩ | e8
    all_goals
      simp (disch:=first|assumption|omega) only[e44,e43,e42,hlt,hat,hFm,faultA,e8,go_sem,↓reduceIte,Nat.reduceEqDiff,Nat.reduceAdd,Nat.reduceLeDiff,Nat.reduceLT,reduceIte,Int.reduceLT,Int.reduceAdd]
      refine callpG_ok (R := fun r => r = .int .i64 (f.Tick % 40)) (fun hp' => ACalls.mono (Below_ok f.Tick 40 f1 (by omega) (by omega) hp') fun r h' hh => ⟨hh.2, hh.1⟩) (by simp (disch:=first|assumption|omega) only[go_sem]) ?_
      rintro _ rfl
      simp (disch:=first|assumption|omega) only[go_sem,↓reduceIte,Nat.reduceEqDiff,reduceIte]
      refine callpG_ok (R := fun r => r = .int .i64 (f.Kind % 3)) (fun hp' => ACalls.mono (Below_ok f.Kind 3 f2 (by omega) (by omega) hp') fun r h' hh => ⟨hh.2, hh.1⟩) (by simp (disch:=first|assumption|omega) only[go_sem]) ?_
      rintro _ rfl
      simp (disch:=first|assumption|omega) only[go_sem,↓reduceIte,Nat.reduceEqDiff,reduceIte]
      refine callpG_ok (R := fun r => r = .int .i64 (f.N % 5)) (fun hp' => ACalls.mono (Below_ok f.N 5 f3 (by omega) (by omega) hp') fun r h' hh => ⟨hh.2, hh.1⟩) (by simp (disch:=first|assumption|omega) only[go_sem]) ?_
      rintro _ rfl
      simp (disch:=first|assumption|omega) only[e44,e43,e42,e1,fillV,dl,go_sem,↓reduceIte,Nat.reduceEqDiff,Nat.reduceAdd,Nat.reduceLeDiff,reduceIte,Int.reduceAdd,Int.reduceMul,Nat.reduceMul]
    · exact ⟨d - 1, by omega, i + 1, by omega, by simp, .inr (by rw [htki, e8']; rfl)⟩
    · exact ⟨by omega, by omega, d - 1, by omega, i + 1, by omega, by simp, .inr (by rw [htki]; unfold faultsA; rw [List.map_append]; rfl)⟩
  · obtain rfl : i = m := by omega
    rw [List.take_of_length_le (by omega)] at hfv
    obtain ⟨s, hs, hsum, hw0, hw1⟩ := LinkAll_plain (F.map fewF) (puts.take n) (few_early F) (by omega)
    have hfew : ∃ oe, rdv (S.env 8) = .lst oe (faultsA (F.map fewF)) ∧ Rdn oe (F.map fewF) := by
      rcases hfv with ⟨e8, e8'⟩ | e8
      · rw [e8, e8']; exact ⟨.nil, rfl, .inr rfl, fun _ => rfl⟩
      · rw [e8]; exact ⟨.sh, rfl, .inl rfl, fun e => by cases e⟩
    obtain ⟨oe, he8, hoe⟩ := hfew
    have hoe1 := hoe.1
    simp (disch:=first|assumption|omega) only[e44,e43,e1,hlt,he8,go_sem,↓reduceIte,Nat.reduceEqDiff,reduceIte]
    refine callG_ok (linked_ok oe .sh (F.map fewF) (puts.take n) 120 s hoe (by rw [List.length_map]; omega) (.inl rfl) hptk hltk (by omega) hs _) (by simp (disch:=first|assumption|omega) only[go_sem]) ?_
    rintro _ h2 ⟨r0, r1, ys0, ys1, hr0, hr1, hy0, hy1, rfl⟩
    have a0 : Ge.rdc (.lst r0 ys0) = .lst r0 ys0 := by rcases hr0 with rfl | rfl <;> rfl
    have a1 : Ge.rdc (.lst r1 ys1) = .lst r1 ys1 := by rcases hr1 with rfl | rfl <;> rfl
    have b0 : rdv (.lst r0 ys0) = .lst r0 ys0 := by rcases hr0 with rfl | rfl <;> rfl
    have b1 : rdv (.lst r1 ys1) = .lst r1 ys1 := by rcases hr1 with rfl | rfl <;> rfl
    have hyl0 := hy0.length
    have hyl1 := hy1.length
    have hwz : ((0 : Nat) : Int) = 0 := rfl
    have hsum2 : (ys0.length : Int) + ys1.length = n := by omega
    have hinm : (ints .i64 (puts.take n)).length = n := by rw [show (ints .i64 (puts.take n)).length = (puts.take n).length from List.length_map _, hnl]
    have hwr : IntKind.i64.wrap ((ys0.length : Int) + ys1.length) = n := by rw [hsum2]; exact wrapI64 (by omega) (by omega)
    simp (disch:=first|assumption|omega) only[e1,fillV,a0,a1,b0,b1,g1,g2,hw0,hw1,List.length_nil,hwz,hwr,hinm,go_sem,↓reduceIte,Nat.reduceEqDiff,Nat.reduceAdd,Nat.reduceLeDiff,Nat.reduceLT,reduceIte,Int.reduceLT,Int.reduceLE,Int.reduceAdd,Int.reduceMul,Nat.reduceMul]
    subst hQ
    simp (disch:=first|assumption|omega) only[R.gantkeep5_LinkAll,go_sem,↓reduceIte,reduceIte]
end Go.Proofs.Ytpdajkbfemcdlaa
