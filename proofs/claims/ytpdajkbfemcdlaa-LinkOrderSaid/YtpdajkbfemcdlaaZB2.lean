import Derived.Test.YtpdajkbfemcdlaaZB1
set_option linter.unusedSimpArgs false
set_option linter.unusedVariables false
set_option maxRecDepth 10000
namespace Go.Proofs.Ytpdajkbfemcdlaa
open Go.Ge
structure LkE (q : Own) (puts : List Int) (ticks nid a b : Nat) (S : AState) : Prop where
  e1 : S.env 1 = .lst q (ints .i64 puts)
  e11 : S.env 11 = .hp nid 0
  e9 : S.env 9 = .box 9 0
  e10 : S.env 10 = .box 10 0
  e6 : S.env 6 = .box 6 0
  e7 : S.env 7 = .box 7 0
  e51 : S.env 51 = .int .i64 ticks
  b9 : S.boxes 9 = some [.hp a 0, .hp b 0]
  b6 : S.boxes 6 = some [.lst .nil [], .lst .nil []]
  b7 : S.boxes 7 = some [.int .i64 0, .int .i64 0]
theorem MsgsOk.app : ∀ {l m : List Msg} {xs ys : List AVal}, MsgsOk l xs → MsgsOk m ys → MsgsOk (l ++ m) (xs ++ ys)
  | [], m, xs, ys, h, k => by simp only[MsgsOk] at h; subst h; exact k
  | a :: l, m, xs, ys, h, k => by
    obtain ⟨x, zs, rfl, h1, h2⟩ := h
    exact ⟨x, zs ++ ys, rfl, h1, h2.app k⟩
theorem MsgsOk.width : ∀ {l : List Msg} {xs : List AVal}, MsgsOk l xs → ∀ x ∈ xs, x.width = 6
  | [], xs, h => by simp only[MsgsOk] at h; subst h; simp
  | a :: l, xs, h => by
    obtain ⟨x, zs, rfl, ⟨o, _, _, rfl⟩, h2⟩ := h
    intro y hy
    rcases List.mem_cons.1 hy with rfl | hy
    · rfl
    · exact h2.width y hy
theorem GotR.cases {v : AVal} {l : List Msg} (h : GotR v l) : ∃ o xs, v = .lst o xs ∧ MsgsOk l xs ∧ (o = .nil ∧ xs = [] ∨ o = .app 6) := by
  rcases h with ⟨rfl, rfl⟩ | ⟨xs, rfl, h⟩
  · exact ⟨.nil, [], rfl, rfl, .inl ⟨rfl, rfl⟩⟩
  · exact ⟨.app 6, xs, rfl, h, .inr rfl⟩
theorem tdivI {x : Int} (h : inI64 x) (c : Nat) (hc : 2 ≤ c) : inI64 (x.tdiv c) := by
  have h1 : (x.tdiv c).natAbs = x.natAbs / c := by rw [Int.natAbs_tdiv]; rfl
  have h2 : x.natAbs / c ≤ x.natAbs / 2 := Nat.div_le_div_left hc (by omega)
  unfold inI64 at h ⊢
  omega
theorem at_putI {l : List Int} {i : Nat} (h : i < l.length) : at_ (ints .i64 l) (i : Int) = .int .i64 l[i] := by
  simp [at_, ints, List.getD_eq_getElem?_getD, h]
theorem at_outF {L : List Fl} {i : Nat} (h : i < L.length) : at_ (L.map outA) (i : Int) = msgA (ownB L[i].1) L[i].2.1 := by
  simp [at_, List.getD_eq_getElem?_getD, h, outA]
theorem way_of2 {L : List Fl} {c : Nat} {m : Msg} {due : Int} (h : L.map (·.2) = List.replicate c (m, due)) (hd : 0 ≤ due ∧ due ≤ 5000) (hc : checkF m = 0) (hb : ∀ x ∈ L, x.1 = false → x.2.1.Cells = []) : WayI L := by
  intro x hx
  have : x.2 ∈ L.map (·.2) := List.mem_map.2 ⟨x, hx, rfl⟩
  rw [h] at this
  have e := List.eq_of_mem_replicate this
  refine ⟨?_, ?_, ?_, hb x hx⟩
  · unfold kd; rw [e]; exact hd.1
  · unfold kd; rw [e]; exact hd.2
  · rw [e]; exact hc
theorem sendE_fine {fs : List Fault} {tk : Int} {n : Nat} {tick : Int} {m : Msg} (h : sendE fs tk n tick m = 0) : checkF m = 0 := by
  unfold sendE at h
  by_cases a : tick < 0 ∨ 2000 < tick
  · rw [if_pos a] at h; cases h
  rw [if_neg a] at h
  by_cases b : tick < tk
  · rw [if_pos b] at h; cases h
  rw [if_neg b] at h
  by_cases c : checkF m ≠ 0
  · rw [if_pos c] at h; exact absurd h c
  · simpa using c
theorem callG_cut {P : Program} {f : Nat} {vs : List AVal} {S : AState} {d : Option Nat} {os : List AO} {K : AState → Prop} (Pm : AState → Prop) (h : callG (ACalls P) f vs S d os Pm) (hk : ∀ S', Pm S' → K S') : callG (ACalls P) f vs S d os K := by
  unfold callG at h ⊢
  exact ⟨h.1, ACalls.mono h.2 fun r h' hr hb => aops_mono (CMono_ACalls P) os hk (hr hb)⟩
set_option maxHeartbeats 8000000 in
theorem linked_ok (o q : Own) (fs : List Fault) (puts : List Int) (ticks : Nat) (sF : Sy) (ho : Rdn o fs) (hfl : fs.length ≤ 5864062014805) (hq : Rdo q) (hp : ∀ c ∈ puts, inI64 c) (hpl : puts.length ≤ 1000) (ht : ticks ≤ 2000) (hrun : linkP fs puts ticks = some sF) (h : List HObj) :
    ACalls Try.prog F.gantkeep5_linked [.lst o (faultsA fs), .lst q (ints .i64 puts), .int .i64 ticks] h (fun v _ => ∃ q0 q1 xs0 xs1, Rdo q0 ∧ Rdo q1 ∧ MsgsOk sF.g0 xs0 ∧ MsgsOk sF.g1 xs1 ∧ v = .tup [.agg [.lst q0 xs0, .lst q1 xs1], .agg [.int .i64 sF.e0.wait.length, .int .i64 sF.e1.wait.length], .bool true]) := by
  have ho1 := ho.1
  have hpm : (ints .i64 puts).length = puts.length := List.length_map _
  have dh : ∀ s i j, drV s (.hp i j) = .hp i j := fun _ _ _ => rfl
  have di : ∀ s k n, drV s (.int k n) = .int k n := fun _ _ _ => rfl
  have dl : ∀ s o l, drV s (.lst o l) = .lst o l := fun _ _ _ => rfl
  have da : ∀ s x y, drV s (.agg [.hp x 0, .hp y 0]) = .agg [.hp x 0, .hp y 0] := fun _ _ _ => rfl
  refine ACalls.of_aw Try.func91 K.gantkeep5_linked (by simp [Try.f91]) ?_
  generalize hQ : retQ R.gantkeep5_linked _ = Q
  simp (disch:=first|assumption|omega) only[C.gantkeep5_linked,go_sem,↓reduceIte,Nat.reduceEqDiff,reduceCtorEq,reduceIte]
  refine callG_ok (NetNew_ok o fs ho hfl _) (by simp (disch:=first|assumption|omega) only[go_sem]) ?_
  rintro _ h1 ⟨rfl, ⟨X, hX⟩, hnet⟩
  simp (disch:=first|assumption|omega) only[go_sem] at hX
  simp (disch:=first|assumption|omega) only[go_sem] at hnet
  have hl1 : h1.length = h.length + 1 := by rw [hX]; simp
  simp (disch:=first|assumption|omega) only[go_sem,↓reduceIte,reduceIte]
  clear hX
  generalize hnid : h.length = nid at *
  refine aw_count (fun d S => ∃ i : Nat, i + d = 2 ∧ S.env 25 = .int .i64 i ∧ S.env 1 = .lst q (ints .i64 puts) ∧ S.env 2 = .int .i64 ticks ∧ S.env 11 = .hp nid 0 ∧ S.env 9 = .box 9 0 ∧ S.env 10 = .box 10 0 ∧ S.env 6 = .box 6 0 ∧ S.env 7 = .box 7 0 ∧ S.boxes 10 = some [.lst .nil [], .lst .nil []] ∧ S.boxes 6 = some [.lst .nil [], .lst .nil []] ∧ S.boxes 7 = some [.int .i64 0, .int .i64 0] ∧
      (i = 0 ∧ S.boxes 9 = some [.nilptr, .nilptr] ∧ S.heap = h1 ∨ i = 1 ∧ S.boxes 9 = some [.hp h1.length 0, .nilptr] ∧ (∃ X0, S.heap = h1 ++ [X0]) ∧ EndR S.heap h1.length [] 0 1 lk0 ∨ i = 2 ∧ S.boxes 9 = some [.hp h1.length 0, .hp (h1.length + 1) 0] ∧ (∃ X0 X1, S.heap = h1 ++ [X0, X1]) ∧ EndR S.heap h1.length [] 0 1 lk0 ∧ EndR S.heap (h1.length + 1) [] 1 0 lk0)) (n := 2)
    ⟨0, by omega, by simp (disch:=first|assumption|omega) only[go_sem,↓reduceIte,reduceIte], by simp (disch:=first|assumption|omega) only[go_sem,↓reduceIte,Nat.reduceEqDiff,reduceIte], by simp (disch:=first|assumption|omega) only[go_sem,↓reduceIte,Nat.reduceEqDiff,reduceIte], by simp (disch:=first|assumption|omega) only[go_sem,↓reduceIte,Nat.reduceEqDiff,reduceIte], by simp (disch:=first|assumption|omega) only[go_sem,↓reduceIte,Nat.reduceEqDiff,reduceIte], by simp (disch:=first|assumption|omega) only[go_sem,↓reduceIte,Nat.reduceEqDiff,reduceIte], by simp (disch:=first|assumption|omega) only[go_sem,↓reduceIte,Nat.reduceEqDiff,reduceIte], by simp (disch:=first|assumption|omega) only[go_sem,↓reduceIte,Nat.reduceEqDiff,reduceIte], by simp (disch:=first|assumption|omega) only[go_sem,↓reduceIte,reduceIte], by simp (disch:=first|assumption|omega) only[go_sem,↓reduceIte,Nat.reduceEqDiff,reduceIte], by simp (disch:=first|assumption|omega) only[go_sem,↓reduceIte,Nat.reduceEqDiff,reduceIte], .inl ⟨rfl, by simp (disch:=first|assumption|omega) only[go_sem,↓reduceIte,Nat.reduceEqDiff,reduceIte], by simp (disch:=first|assumption|omega) only[go_sem]⟩⟩ ?_
  rintro d S ⟨i, hi, e25, e1, e2, e11, e9, e10, e6, e7, b10, b6, b7, hc⟩
  have g2 : ((2 : Nat) : Int) = 2 := rfl
  have c11 : ((1 : Nat) : Int) = 1 := rfl
  have c00 : ((0 : Nat) : Int) = 0 := rfl
  have g1 : Int.toNat 1 = 1 := rfl
  rcases hc with ⟨rfl, b9, eh⟩ | ⟨rfl, b9, ⟨X0, eh⟩, he0⟩ | ⟨rfl, b9, ⟨X0, X1, eh⟩, he0, he1⟩
  · simp (disch:=first|assumption|omega) only[e25,go_sem,↓reduceIte,Nat.reduceEqDiff,Nat.reduceLT,reduceIte,Int.reduceLT]
    refine callG_ok (New_ok 0 1 _) (by simp (disch:=first|assumption|omega) only[go_sem]) ?_
    rintro v h2 hv
    rcases hv with ⟨hv, _⟩ | ⟨_, rfl, ob, rfl, hE⟩
    · exfalso; omega
    simp (disch:=first|assumption|omega) only[eh,go_sem] at hE
    simp (disch:=first|assumption|omega) only[e25,e1,e2,e11,e9,e10,e6,e7,b10,b6,b7,b9,g2,fillV,eh,go_sem,↓reduceIte,Nat.reduceEqDiff,Nat.reduceAdd,Nat.reduceLeDiff,Nat.reduceLT,reduceIte,Int.reduceLT,Int.reduceLE,Int.reduceAdd]
    exact ⟨d - 1, by omega, 1, by omega, rfl, .inr (.inl ⟨rfl, ⟨ob, rfl⟩, hE⟩)⟩
  · simp (disch:=first|assumption|omega) only[e25,c11,go_sem,↓reduceIte,Nat.reduceEqDiff,Nat.reduceLT,reduceIte,Int.reduceLT]
    refine callG_ok (New_ok 1 0 _) (by simp (disch:=first|assumption|omega) only[go_sem]) ?_
    rintro v h2 hv
    rcases hv with ⟨hv, _⟩ | ⟨_, rfl, ob, rfl, hE⟩
    · exfalso; omega
    rw [eh] at he0
    simp (disch:=first|assumption|omega) only[eh,List.append_assoc,go_sem] at hE
    simp (disch:=first|assumption|omega) only[e25,e1,e2,e11,e9,e10,e6,e7,b10,b6,b7,b9,g1,g2,fillV,eh,List.append_assoc,c11,go_sem,↓reduceIte,Nat.reduceEqDiff,Nat.reduceAdd,Nat.reduceLeDiff,Nat.reduceLT,reduceIte,Int.reduceLT,Int.reduceLE,Int.reduceAdd,Int.reduceMul,Nat.reduceMul]
    have he0' : EndR (h1 ++ [X0, ob]) h1.length [] 0 1 lk0 := by
      have := he0.frame (S := []) (h' := (h1 ++ [X0]) ++ [ob]) Fr.app (by simp) (by simp)
      simpa using this
    refine ⟨d - 1, by omega, 2, by omega, rfl, .inr (.inr ⟨rfl, ⟨X0, ob, rfl⟩, he0', ?_⟩)⟩
    exact hE
  · simp (disch:=first|assumption|omega) only[e25,e2,g2,go_sem,↓reduceIte,Nat.reduceEqDiff,Nat.reduceLT,reduceIte,Int.reduceLT]
    have hl2 : S.heap.length = nid + 3 := by rw [eh]; simp; omega
    have hnet2 : NetR S.heap nid fs 0 [] := by rw [eh]; exact hnet.frame (S := []) Fr.app (by simp)
    have hT0 : Two S.heap nid h1.length (h1.length + 1) 0 1 fs sy0.net sy0.e0 sy0.e1 := ⟨[], [], [], hnet2, rfl, (fun x hx => by cases hx), he0, he1, by omega, by omega, by omega, (fun x hx => by cases hx), (fun x hx => by cases hx), by omega, by omega, by omega⟩
    obtain ⟨a, ha⟩ : ∃ a, a = h1.length := ⟨_, rfl⟩
    obtain ⟨b, hb⟩ : ∃ b, b = h1.length + 1 := ⟨_, rfl⟩
    rw [← hb] at hT0 b9
    rw [← ha] at hT0 b9
    clear he0 he1 eh hnet hnet2 hl2
    clear hb ha hl1
    have dL : ∀ (S : AState), True := fun _ => trivial
    refine aw_count (fun d S => ∃ (t : Nat) (s : Sy), t + d = ticks ∧ runP fs puts d t s = some sF ∧ S.env 52 = .int .i64 t ∧ LkE q puts ticks nid a b S ∧ Two S.heap nid a b 0 1 fs s.net s.e0 s.e1 ∧ s.e0.ok (3000 * (t : Int)) ∧ s.e1.ok (3000 * (t : Int)) ∧ s.g0.length ≤ 12200000 * t ∧ s.g1.length ≤ 12200000 * t ∧ ∃ gs, S.boxes 10 = some gs ∧ GotsR gs s.g0 s.g1) (n := ticks)
      ⟨0, sy0, by omega, hrun, by simp (disch:=first|assumption|omega) only[go_sem,↓reduceIte,reduceIte], ⟨by simp (disch:=first|assumption|omega) only[e1,go_sem,↓reduceIte,Nat.reduceEqDiff,reduceIte], by simp (disch:=first|assumption|omega) only[e11,go_sem,↓reduceIte,Nat.reduceEqDiff,reduceIte], by simp (disch:=first|assumption|omega) only[e9,go_sem,↓reduceIte,Nat.reduceEqDiff,reduceIte], by simp (disch:=first|assumption|omega) only[e10,go_sem,↓reduceIte,Nat.reduceEqDiff,reduceIte], by simp (disch:=first|assumption|omega) only[e6,go_sem,↓reduceIte,Nat.reduceEqDiff,reduceIte], by simp (disch:=first|assumption|omega) only[e7,go_sem,↓reduceIte,Nat.reduceEqDiff,reduceIte], by simp (disch:=first|assumption|omega) only[go_sem,↓reduceIte,Nat.reduceEqDiff,reduceIte], by simp (disch:=first|assumption|omega) only[b9,go_sem], by simp (disch:=first|assumption|omega) only[b6,go_sem], by simp (disch:=first|assumption|omega) only[b7,go_sem]⟩, by simp (disch:=first|assumption|omega) only[go_sem]; exact hT0, ok_mono lk0_ok (by omega), ok_mono lk0_ok (by omega), by simp [sy0], by simp [sy0], _, by simp (disch:=first|assumption|omega) only[b10,go_sem], .lst .nil [], .lst .nil [], rfl, .inl ⟨rfl, rfl⟩, .inl ⟨rfl, rfl⟩⟩ ?_
    clear e25 e1 e2 e11 e9 e10 e6 e7 b10 b6 b7 b9 hT0 hrun
    rintro d S ⟨t, s, htd, hrun, e52, ⟨e1, e11, e9, e10, e6, e7, e51, b9, b6, b7⟩, hT, ok0, ok1, gl0, gl1, gs, b10, hG⟩
    by_cases hlt : (t : Int) < ticks
    · obtain ⟨d, rfl⟩ : ∃ d', d = d' + 1 := ⟨d - 1, by omega⟩
      unfold runP at hrun
      obtain ⟨s3, hrt, hrr⟩ := Option.bind_eq_some_iff.1 hrun
      unfold tickP at hrt
      obtain ⟨s2, hrt, hr1⟩ := Option.bind_eq_some_iff.1 hrt
      obtain ⟨s1, hr0, hr2⟩ := Option.bind_eq_some_iff.1 hrt
      simp (disch:=first|assumption|omega) only[e52,e1,e51,hlt,hpm,go_sem,↓reduceIte,Nat.reduceEqDiff,reduceIte]
      refine condG_cut (fun S' => LkE q puts ticks nid a b S' ∧ S'.env 52 = .int .i64 t ∧ S'.env 15 = .int .i64 t ∧ Two S'.heap nid a b 0 1 fs s1.net s1.e0 s1.e1 ∧ s1.e0.ok (3000 * (t : Int) + 1) ∧ s1.e1.ok (3000 * (t : Int) + 1) ∧ s1.g0.length ≤ 12200000 * t ∧ s1.g1.length ≤ 12200000 * t ∧ ∃ gs, S'.boxes 10 = some gs ∧ GotsR gs s1.g0 s1.g1) ?_ ?_
      · by_cases htl : t < puts.length
        · have hat := at_putI htl
          have hpx := hp _ (List.getElem_mem htl)
          have hpt : puts[t]? = some puts[t] := List.getElem?_eq_getElem htl
          unfold putP at hr0
          rw [hpt] at hr0
          simp only at hr0
          generalize puts[t] = p at *
          have hw1 : IntKind.i64.wrap (p.tdiv 2) = p.tdiv 2 := by have := tdivI hpx 2 (by omega); unfold inI64 at this; exact wrapI64 (by simpa using this.1) (by have := this.2; simp at this; omega)
          have hw2 : IntKind.i64.wrap (p.tdiv 6) = p.tdiv 6 := by have := tdivI hpx 6 (by omega); unfold inI64 at this; exact wrapI64 (by simpa using this.1) (by have := this.2; simp at this; omega)
          have hp2 : p % 2 = 0 ∨ p % 2 = 1 := by omega
          simp (disch:=first|assumption|omega) only[e1,htl,hat,hpm,go_sem,↓reduceIte,Nat.reduceEqDiff,Nat.reduceLeDiff,Nat.reduceLT,reduceIte,Int.reduceLT]
          refine callG_ok (Below_ok p 2 hpx (by omega) (by omega) _) (by simp (disch:=first|assumption|omega) only[go_sem]) ?_
          rintro _ _ ⟨rfl, hhh⟩
          rw [hhh]
          clear hhh
          rcases hp2 with hp2 | hp2
          · rw [if_pos hp2] at hr0
            split at hr0
            · rename_i hpe
              cases hr0
              obtain ⟨Ms, oe, of, tr⟩ := hT
              simp (disch:=first|assumption|omega) only[e1,e9,b9,htl,hat,hpm,hp2,hw1,hw2,g2,go_sem,↓reduceIte,Nat.reduceEqDiff,Nat.reduceAdd,Nat.reduceLeDiff,Nat.reduceLT,reduceIte,Int.reduceLT,Int.reduceLE,Int.reduceAdd,Int.reduceNe]
              refine callG_ok (Below_ok (p.tdiv 2) 3 (by simpa using tdivI hpx 2 (by omega)) (by omega) (by omega) _) (by simp (disch:=first|assumption|omega) only[go_sem]) ?_
              rintro _ _ ⟨rfl, hhh⟩
              rw [hhh]
              clear hhh
              simp (disch:=first|assumption|omega) only[go_sem,↓reduceIte,Nat.reduceEqDiff,reduceIte]
              refine callG_ok (Below_ok (p.tdiv 6) 9 (by simpa using tdivI hpx 6 (by omega)) (by omega) (by omega) _) (by simp (disch:=first|assumption|omega) only[go_sem]) ?_
              rintro _ _ ⟨rfl, hhh⟩
              rw [hhh]
              clear hhh
              simp (disch:=first|assumption|omega) only[fillV,go_sem,↓reduceIte,Nat.reduceEqDiff,Nat.reduceAdd,Nat.reduceLeDiff,reduceIte,Int.reduceAdd,Int.reduceMul,Nat.reduceMul]
              refine callG_ok (Put_ok a oe 0 1 s.e0 (3000 * (t : Int)) (pKind p) .sh (pCells p t) _ (by simp (disch:=first|assumption|omega) only[go_sem]; exact tr.erm) ok0 (by omega) ⟨.inl rfl, fun e => by cases e⟩ (by simp [pCells, reachBytes])) (by simp (disch:=first|assumption|omega) only[go_sem]) ?_
              rintro _ h2 ⟨rfl, hQE⟩
              simp (disch:=first|assumption|omega) only[go_sem] at hQE
              have hT2 := tr.upd hQE
              simp (disch:=first|assumption|omega) only[e52,b10,hpe,go_sem,↓reduceIte,Nat.reduceEqDiff,reduceIte]
              exact ⟨⟨by simp (disch:=first|assumption|omega) only[e1,go_sem,↓reduceIte,Nat.reduceEqDiff,reduceIte], by simp (disch:=first|assumption|omega) only[e11,go_sem,↓reduceIte,Nat.reduceEqDiff,reduceIte], by simp (disch:=first|assumption|omega) only[e9,go_sem,↓reduceIte,Nat.reduceEqDiff,reduceIte], by simp (disch:=first|assumption|omega) only[e10,go_sem,↓reduceIte,Nat.reduceEqDiff,reduceIte], by simp (disch:=first|assumption|omega) only[e6,go_sem,↓reduceIte,Nat.reduceEqDiff,reduceIte], by simp (disch:=first|assumption|omega) only[e7,go_sem,↓reduceIte,Nat.reduceEqDiff,reduceIte], by simp (disch:=first|assumption|omega) only[e51,go_sem,↓reduceIte,Nat.reduceEqDiff,reduceIte], by simp (disch:=first|assumption|omega) only[b9,go_sem], by simp (disch:=first|assumption|omega) only[b6,go_sem], by simp (disch:=first|assumption|omega) only[b7,go_sem]⟩, hT2, putS_ok ok0, ok_mono ok1 (by omega), gl0, gl1, gs, rfl, hG⟩
            · cases hr0
          · rw [if_neg (by omega)] at hr0
            split at hr0
            · rename_i hpe
              cases hr0
              obtain ⟨Ms, oe, of, tr⟩ := hT
              simp (disch:=first|assumption|omega) only[e1,e9,b9,htl,hat,hpm,hp2,hw1,hw2,g1,g2,go_sem,↓reduceIte,Nat.reduceEqDiff,Nat.reduceAdd,Nat.reduceLeDiff,Nat.reduceLT,reduceIte,Int.reduceLT,Int.reduceLE,Int.reduceAdd,Int.reduceMul,Int.reduceNe,Nat.reduceMul]
              refine callG_ok (Below_ok (p.tdiv 2) 3 (by simpa using tdivI hpx 2 (by omega)) (by omega) (by omega) _) (by simp (disch:=first|assumption|omega) only[go_sem]) ?_
              rintro _ _ ⟨rfl, hhh⟩
              rw [hhh]
              clear hhh
              simp (disch:=first|assumption|omega) only[go_sem,↓reduceIte,Nat.reduceEqDiff,reduceIte]
              refine callG_ok (Below_ok (p.tdiv 6) 9 (by simpa using tdivI hpx 6 (by omega)) (by omega) (by omega) _) (by simp (disch:=first|assumption|omega) only[go_sem]) ?_
              rintro _ _ ⟨rfl, hhh⟩
              rw [hhh]
              clear hhh
              simp (disch:=first|assumption|omega) only[fillV,go_sem,↓reduceIte,Nat.reduceEqDiff,Nat.reduceAdd,Nat.reduceLeDiff,reduceIte,Int.reduceAdd,Int.reduceMul,Nat.reduceMul]
              refine callG_ok (Put_ok b of 1 0 s.e1 (3000 * (t : Int)) (pKind p) .sh (pCells p t) _ (by simp (disch:=first|assumption|omega) only[go_sem]; exact tr.ero) ok1 (by omega) ⟨.inl rfl, fun e => by cases e⟩ (by simp [pCells, reachBytes])) (by simp (disch:=first|assumption|omega) only[go_sem]) ?_
              rintro _ h2 ⟨rfl, hQE⟩
              simp (disch:=first|assumption|omega) only[go_sem] at hQE
              have hT2 := (tr.swap.upd hQE).swap
              simp (disch:=first|assumption|omega) only[e52,b10,hpe,go_sem,↓reduceIte,Nat.reduceEqDiff,reduceIte]
              exact ⟨⟨by simp (disch:=first|assumption|omega) only[e1,go_sem,↓reduceIte,Nat.reduceEqDiff,reduceIte], by simp (disch:=first|assumption|omega) only[e11,go_sem,↓reduceIte,Nat.reduceEqDiff,reduceIte], by simp (disch:=first|assumption|omega) only[e9,go_sem,↓reduceIte,Nat.reduceEqDiff,reduceIte], by simp (disch:=first|assumption|omega) only[e10,go_sem,↓reduceIte,Nat.reduceEqDiff,reduceIte], by simp (disch:=first|assumption|omega) only[e6,go_sem,↓reduceIte,Nat.reduceEqDiff,reduceIte], by simp (disch:=first|assumption|omega) only[e7,go_sem,↓reduceIte,Nat.reduceEqDiff,reduceIte], by simp (disch:=first|assumption|omega) only[e51,go_sem,↓reduceIte,Nat.reduceEqDiff,reduceIte], by simp (disch:=first|assumption|omega) only[b9,go_sem], by simp (disch:=first|assumption|omega) only[b6,go_sem], by simp (disch:=first|assumption|omega) only[b7,go_sem]⟩, hT2, ok_mono ok0 (by omega), putS_ok ok1, gl0, gl1, gs, rfl, hG⟩
            · cases hr0
        · have : puts[t]? = none := List.getElem?_eq_none (by omega)
          unfold putP at hr0
          rw [this] at hr0
          cases hr0
          simp (disch:=first|assumption|omega) only[e52,b10,htl,go_sem,↓reduceIte,Nat.reduceEqDiff,reduceIte]
          exact ⟨⟨by simp (disch:=first|assumption|omega) only[e1,go_sem,↓reduceIte,Nat.reduceEqDiff,reduceIte], by simp (disch:=first|assumption|omega) only[e11,go_sem,↓reduceIte,Nat.reduceEqDiff,reduceIte], by simp (disch:=first|assumption|omega) only[e9,go_sem,↓reduceIte,Nat.reduceEqDiff,reduceIte], by simp (disch:=first|assumption|omega) only[e10,go_sem,↓reduceIte,Nat.reduceEqDiff,reduceIte], by simp (disch:=first|assumption|omega) only[e6,go_sem,↓reduceIte,Nat.reduceEqDiff,reduceIte], by simp (disch:=first|assumption|omega) only[e7,go_sem,↓reduceIte,Nat.reduceEqDiff,reduceIte], by simp (disch:=first|assumption|omega) only[e51,go_sem,↓reduceIte,Nat.reduceEqDiff,reduceIte], by simp (disch:=first|assumption|omega) only[b9,go_sem], by simp (disch:=first|assumption|omega) only[b6,go_sem], by simp (disch:=first|assumption|omega) only[b7,go_sem]⟩, hT, ok_mono ok0 (by omega), ok_mono ok1 (by omega), gl0, gl1, gs, rfl, hG⟩
      · clear e52 e1 e11 e9 e10 e6 e7 e51 b9 b6 b7 b10 hT ok0 ok1 hG gl0 gl1
        rintro S ⟨⟨e1, e11, e9, e10, e6, e7, e51, b9, b6, b7⟩, e52, e15, hT, ok0, ok1, gl0, gl1, gs, b10, hG⟩
        have hrem : (remP fs t 0 s1).bind (runP fs puts d (t + 1)) = some sF := by
          simp only[remP]; rw [hr2, Option.bind_some, hr1, Option.bind_some, hrr]
        have htc : IntKind.u32.wrap (t : Int) = t := wrapU32 (by omega) (by omega)
        have hcl : clampT (t : Int) = t := by unfold clampT; omega
        simp (disch:=first|assumption|omega) only[e9,b9,go_sem,↓reduceIte,Nat.reduceAdd,Nat.reduceLeDiff,reduceIte,Int.reduceAdd]
        refine aw_count (fun d2 S' => ∃ (i : Nat) (s : Sy), i + d2 = 2 ∧ (remP fs t i s).bind (runP fs puts d (t + 1)) = some sF ∧ S'.env 88 = .int .i64 i ∧ S'.env 87 = .agg [.hp a 0, .hp b 0] ∧ LkE q puts ticks nid a b S' ∧ S'.env 52 = .int .i64 t ∧ S'.env 15 = .int .i64 t ∧ Two S'.heap nid a b 0 1 fs s.net s.e0 s.e1 ∧ s.e0.ok (3000 * (t : Int) + 1 + 1010 * (i : Int)) ∧ s.e1.ok (3000 * (t : Int) + 1 + 1010 * (i : Int)) ∧ s.g0.length ≤ 12200000 * t + 6100000 * i ∧ s.g1.length ≤ 12200000 * t + 6100000 * i ∧ ∃ gs, S'.boxes 10 = some gs ∧ GotsR gs s.g0 s.g1) (n := 2)
          ⟨0, s1, by omega, hrem, by simp (disch:=first|assumption|omega) only[go_sem,↓reduceIte,reduceIte], by simp (disch:=first|assumption|omega) only[go_sem,↓reduceIte,Nat.reduceEqDiff,reduceIte], ⟨by simp (disch:=first|assumption|omega) only[e1,go_sem,↓reduceIte,Nat.reduceEqDiff,reduceIte], by simp (disch:=first|assumption|omega) only[e11,go_sem,↓reduceIte,Nat.reduceEqDiff,reduceIte], by simp (disch:=first|assumption|omega) only[e9,go_sem,↓reduceIte,Nat.reduceEqDiff,reduceIte], by simp (disch:=first|assumption|omega) only[e10,go_sem,↓reduceIte,Nat.reduceEqDiff,reduceIte], by simp (disch:=first|assumption|omega) only[e6,go_sem,↓reduceIte,Nat.reduceEqDiff,reduceIte], by simp (disch:=first|assumption|omega) only[e7,go_sem,↓reduceIte,Nat.reduceEqDiff,reduceIte], by simp (disch:=first|assumption|omega) only[e51,go_sem,↓reduceIte,Nat.reduceEqDiff,reduceIte], by simp (disch:=first|assumption|omega) only[b9,go_sem], by simp (disch:=first|assumption|omega) only[b6,go_sem], by simp (disch:=first|assumption|omega) only[b7,go_sem]⟩, by simp (disch:=first|assumption|omega) only[e52,go_sem,↓reduceIte,Nat.reduceEqDiff,reduceIte], by simp (disch:=first|assumption|omega) only[e15,go_sem,↓reduceIte,Nat.reduceEqDiff,reduceIte], by simp (disch:=first|assumption|omega) only[go_sem]; exact hT, ok_mono ok0 (by omega), ok_mono ok1 (by omega), by omega, by omega, gs, by simp (disch:=first|assumption|omega) only[b10,go_sem], hG⟩ ?_
        clear e52 e15 e1 e11 e9 e10 e6 e7 e51 b9 b6 b7 b10 hT ok0 ok1 hG hrem hrr hr1 hr2 hr0 hrt gl0 gl1
        rintro d2 S ⟨i, s, hi, hrem, e88, e87, ⟨e1, e11, e9, e10, e6, e7, e51, b9, b6, b7⟩, e52, e15, hT, ok0, ok1, gl0, gl1, gs, b10, hG⟩
        obtain ⟨s5, hA, hB⟩ := Option.bind_eq_some_iff.1 hrem
        obtain ⟨x0, x1, rfl, hx0, hx1⟩ := hG
        have hi3 : i = 0 ∨ i = 1 ∨ i = 2 := by omega
        rcases hi3 with rfl | rfl | rfl
        · simp only[remP] at hA
          obtain ⟨s4, hC, hD⟩ := Option.bind_eq_some_iff.1 hA
          unfold end0 at hC
          obtain ⟨r, hr, rfl⟩ := Option.map_eq_some_iff.1 hC
          obtain ⟨em1, n', hin, hsend, rfl⟩ := endP_some hr
          obtain ⟨Ms, oe, of, tr⟩ := hT
          simp (disch:=first|assumption|omega) only[e88,e87,e11,e15,c00,g2,go_sem,↓reduceIte,Nat.reduceEqDiff,Nat.reduceAdd,Nat.reduceLT,reduceIte,Int.reduceLT,Int.reduceLE,Int.reduceAdd]
          refine callG_ok (NetTakeRS_ok nid fs s.net.1 t 0 Ms (fun x hx => ⟨(tr.way x hx).1, by have := (tr.way x hx).2.1; omega⟩) _ (by simp (disch:=first|assumption|omega) only[go_sem]; exact tr.nr)) (by simp (disch:=first|assumption|omega) only[go_sem]) ?_
          rintro v h2 ⟨L', hst, hov, hn2, hf2⟩
          simp (disch:=first|assumption|omega) only[go_sem] at hf2
          have htm := takeM_of tr.ms tr.way hst
          have hT2 : Two h2 nid a b 0 1 fs (takeN s.net t 0) s.e0 s.e1 := ⟨_, oe, of, tr.upn (net' := takeN s.net t 0) hn2 (takeN_of tr.ms) (tr.way.filter _) hf2⟩
          have hLi : ∀ x ∈ L', checkF x.2.1 = 0 ∧ (x.1 = false → x.2.1.Cells = []) := fun x hx => (tr.way x (List.mem_filter.1 (hst.perm.mem_iff.1 hx)).1).2.2
          have hLl : L'.length ≤ 1000 := by
            have h1 : Ms.length ≤ 1000 := by obtain ⟨_, _, _, _, _, h⟩ := tr.nr; exact h
            rw [hst.perm.length_eq]; exact Nat.le_trans (List.length_filter_le _ _) h1
          have hlo : (L'.map outA).length = L'.length := List.length_map _
          rw [← htm] at hin
          obtain ⟨ov, rfl, hov3⟩ := hov.cases
          have hrv : ∃ q3, rdv (.lst ov (L'.map outA)) = .lst q3 (L'.map outA) ∧ Rdo q3 := by
            rcases hov3 with rfl | rfl
            · exact ⟨.nil, rfl, .inr rfl⟩
            · exact ⟨.sh, rfl, .inl rfl⟩
          obtain ⟨q3, hrv, hq3⟩ := hrv
          clear hst hov3 hn2 hf2 htm tr
          clear Ms oe of
          simp (disch:=first|assumption|omega) only[hlo,hrv,go_sem,↓reduceIte,reduceIte]
          refine aw_count (fun d3 S' => ∃ (k : Nat) (em : Lk), k + d3 = L'.length ∧ inAll 0 1 em ((L'.drop k).map (·.2.1)) = some em1 ∧ S'.env 97 = .int .i64 k ∧ S'.env 96 = .int .i64 L'.length ∧ S'.env 95 = .lst ov (L'.map outA) ∧ S'.env 18 = .hp a 0 ∧ S'.env 17 = .int .i64 0 ∧ S'.env 88 = .int .i64 0 ∧ S'.env 87 = .agg [.hp a 0, .hp b 0] ∧ LkE q puts ticks nid a b S' ∧ S'.env 52 = .int .i64 t ∧ S'.env 15 = .int .i64 t ∧ Two S'.heap nid a b 0 1 fs (takeN s.net t 0) em s.e1 ∧ em.ok (3000 * (t : Int) + 1 + 1010 * 0 + k) ∧ S'.boxes 10 = some [x0, x1]) (n := L'.length)
            ⟨0, s.e0, by omega, hin, by simp (disch:=first|assumption|omega) only[go_sem,↓reduceIte,reduceIte], by simp (disch:=first|assumption|omega) only[go_sem,↓reduceIte,Nat.reduceEqDiff,reduceIte], by simp (disch:=first|assumption|omega) only[go_sem,↓reduceIte,Nat.reduceEqDiff,reduceIte], by simp (disch:=first|assumption|omega) only[go_sem,↓reduceIte,Nat.reduceEqDiff,reduceIte], by simp (disch:=first|assumption|omega) only[go_sem,↓reduceIte,Nat.reduceEqDiff,reduceIte], by simp (disch:=first|assumption|omega) only[e88,c00,go_sem,↓reduceIte,Nat.reduceEqDiff,reduceIte], by simp (disch:=first|assumption|omega) only[e87,go_sem,↓reduceIte,Nat.reduceEqDiff,reduceIte], ⟨by simp (disch:=first|assumption|omega) only[e1,go_sem,↓reduceIte,Nat.reduceEqDiff,reduceIte], by simp (disch:=first|assumption|omega) only[e11,go_sem,↓reduceIte,Nat.reduceEqDiff,reduceIte], by simp (disch:=first|assumption|omega) only[e9,go_sem,↓reduceIte,Nat.reduceEqDiff,reduceIte], by simp (disch:=first|assumption|omega) only[e10,go_sem,↓reduceIte,Nat.reduceEqDiff,reduceIte], by simp (disch:=first|assumption|omega) only[e6,go_sem,↓reduceIte,Nat.reduceEqDiff,reduceIte], by simp (disch:=first|assumption|omega) only[e7,go_sem,↓reduceIte,Nat.reduceEqDiff,reduceIte], by simp (disch:=first|assumption|omega) only[e51,go_sem,↓reduceIte,Nat.reduceEqDiff,reduceIte], by simp (disch:=first|assumption|omega) only[b9,go_sem], by simp (disch:=first|assumption|omega) only[b6,go_sem], by simp (disch:=first|assumption|omega) only[b7,go_sem]⟩, by simp (disch:=first|assumption|omega) only[e52,go_sem,↓reduceIte,Nat.reduceEqDiff,reduceIte], by simp (disch:=first|assumption|omega) only[e15,go_sem,↓reduceIte,Nat.reduceEqDiff,reduceIte], by simp (disch:=first|assumption|omega) only[go_sem]; exact hT2, ok_mono ok0 (by omega), by simp (disch:=first|assumption|omega) only[b10,go_sem]⟩ ?_
          clear e88 e87 e1 e11 e9 e10 e6 e7 e51 b9 b6 b7 e52 e15 b10 hT2 hin ok0
          rintro d3 S3 ⟨k, em, hk, hin, e97, e96, e95, e18, e17, e88, e87, ⟨e1, e11, e9, e10, e6, e7, e51, b9, b6, b7⟩, e52, e15, hT2, okm, b10⟩
          by_cases hlt2 : (k : Int) < L'.length
          · have hk1 : k < L'.length := by omega
            have hat := at_outF hk1
            have hdk : L'.drop k = L'[k] :: L'.drop (k + 1) := List.drop_eq_getElem_cons hk1
            have hxi := hLi _ (List.getElem_mem hk1)
            rw [hdk, List.map_cons] at hin
            obtain ⟨hie, hin2⟩ := inAll_cons hin
            generalize L'[k] = x at *
            have hob := ownB_rdo x.1
            have hcl2 := checkF_len hxi.1
            simp only[msgA,msgC] at hat
            obtain ⟨Ms, oe, of, tr⟩ := hT2
            simp (disch:=first|assumption|omega) only[e97,e96,e95,e18,hlt2,hat,hrv,hlo,fillV,go_sem,↓reduceIte,Nat.reduceEqDiff,Nat.reduceAdd,Nat.reduceLeDiff,reduceIte,Int.reduceAdd,Int.reduceMul,Nat.reduceMul]
            refine callG_ok (In_ok a oe 0 1 em (3000 * (t : Int) + 1 + 1010 * 0 + k) (ownB x.1) x.2.1 _ (by simp (disch:=first|assumption|omega) only[go_sem]; exact tr.erm) okm (by omega) ⟨hob, fun e => hxi.2 (by cases hb : x.1; rfl; rw [hb] at e; cases e)⟩ (by omega)) (by simp (disch:=first|assumption|omega) only[go_sem]) ?_
            rintro _ h3 ⟨rfl, hQE⟩
            simp (disch:=first|assumption|omega) only[go_sem] at hQE
            have hT3 := tr.upd hQE
            simp (disch:=first|assumption|omega) only[e97,e96,e95,e18,e17,e88,e87,e52,e15,b10,hie,go_sem,↓reduceIte,Nat.reduceEqDiff,reduceIte]
            exact ⟨d3 - 1, by omega, k + 1, inS em 0 1 x.2.1, by omega, hin2, by simp, ⟨by simp (disch:=first|assumption|omega) only[e1,go_sem,↓reduceIte,Nat.reduceEqDiff,reduceIte], by simp (disch:=first|assumption|omega) only[e11,go_sem,↓reduceIte,Nat.reduceEqDiff,reduceIte], by simp (disch:=first|assumption|omega) only[e9,go_sem,↓reduceIte,Nat.reduceEqDiff,reduceIte], by simp (disch:=first|assumption|omega) only[e10,go_sem,↓reduceIte,Nat.reduceEqDiff,reduceIte], by simp (disch:=first|assumption|omega) only[e6,go_sem,↓reduceIte,Nat.reduceEqDiff,reduceIte], by simp (disch:=first|assumption|omega) only[e7,go_sem,↓reduceIte,Nat.reduceEqDiff,reduceIte], by simp (disch:=first|assumption|omega) only[e51,go_sem,↓reduceIte,Nat.reduceEqDiff,reduceIte], by simp (disch:=first|assumption|omega) only[b9,go_sem,↓reduceIte,Nat.reduceEqDiff,reduceIte], by simp (disch:=first|assumption|omega) only[b6,go_sem,↓reduceIte,Nat.reduceEqDiff,reduceIte], by simp (disch:=first|assumption|omega) only[b7,go_sem,↓reduceIte,Nat.reduceEqDiff,reduceIte]⟩, hT3, ok_mono (inS_ok okm) (by omega)⟩
          · obtain rfl : k = L'.length := by omega
            rw [List.drop_length] at hin
            obtain rfl : em = em1 := Option.some.inj hin
            obtain ⟨Ms, oe, of, tr⟩ := hT2
            obtain ⟨go, gx, rfl, hgx, hgo⟩ := hx0.cases
            simp (disch:=first|assumption|omega) only[e97,e96,e18,e17,e10,b10,hlt2,g2,go_sem,↓reduceIte,Nat.reduceEqDiff,Nat.reduceAdd,Nat.reduceLT,reduceIte,Int.reduceLT,Int.reduceLE,Int.reduceAdd,Int.reduceMul,Nat.reduceMul]
            have hgl := okm.got
            refine callG_cut (fun S' => S'.env 18 = .hp a 0 ∧ S'.env 17 = .int .i64 0 ∧ S'.env 88 = .int .i64 0 ∧ S'.env 87 = .agg [.hp a 0, .hp b 0] ∧ LkE q puts ticks nid a b S' ∧ S'.env 52 = .int .i64 t ∧ S'.env 15 = .int .i64 t ∧ Two S'.heap nid a b 0 1 fs (takeN s.net t 0) (emptied em) s.e1 ∧ ∃ gs, S'.boxes 10 = some gs ∧ GotsR gs (s.g0 ++ em.got) (s.g1)) ?_ ?_
            · refine callG_ok (Take_ok a oe 0 1 em _ (by simp (disch:=first|assumption|omega) only[go_sem]; exact tr.erm)) (by simp (disch:=first|assumption|omega) only[go_sem]) ?_
              rintro v h3 ⟨hgv, hQE⟩
              simp (disch:=first|assumption|omega) only[go_sem] at hQE
              have hT3 := tr.upd hQE
              have hgxl := hgx.length
              rcases hgo with ⟨rfl, rfl⟩ | rfl <;> rcases hgv with ⟨rfl, hg0⟩ | ⟨zs, rfl, hzs⟩
              · have hz : MsgsOk em.got [] := by rw [hg0]; rfl
                simp (disch:=first|assumption|omega) only[e18,e17,e88,e87,e10,e52,e15,fillV,g2,go_sem,↓reduceIte,Nat.reduceEqDiff,Nat.reduceAdd,Nat.reduceLeDiff,Nat.reduceLT,reduceIte,Int.reduceLT,Int.reduceLE,Int.reduceAdd]
                exact ⟨⟨by simp (disch:=first|assumption|omega) only[e1,go_sem,↓reduceIte,Nat.reduceEqDiff,reduceIte], by simp (disch:=first|assumption|omega) only[e11,go_sem,↓reduceIte,Nat.reduceEqDiff,reduceIte], by simp (disch:=first|assumption|omega) only[e9,go_sem,↓reduceIte,Nat.reduceEqDiff,reduceIte], by simp (disch:=first|assumption|omega) only[e10,go_sem,↓reduceIte,Nat.reduceEqDiff,reduceIte], by simp (disch:=first|assumption|omega) only[e6,go_sem,↓reduceIte,Nat.reduceEqDiff,reduceIte], by simp (disch:=first|assumption|omega) only[e7,go_sem,↓reduceIte,Nat.reduceEqDiff,reduceIte], by simp (disch:=first|assumption|omega) only[e51,go_sem,↓reduceIte,Nat.reduceEqDiff,reduceIte], by simp (disch:=first|assumption|omega) only[b9,go_sem,↓reduceIte,Nat.reduceEqDiff,reduceIte], by simp (disch:=first|assumption|omega) only[b6,go_sem,↓reduceIte,Nat.reduceEqDiff,reduceIte], by simp (disch:=first|assumption|omega) only[b7,go_sem,↓reduceIte,Nat.reduceEqDiff,reduceIte]⟩, hT3, _, rfl, _, _, rfl, .inr ⟨_, rfl, hgx.app hz⟩, hx1⟩
              · have hz := hzs
                have hzw := hzs.width
                have hzl := hzs.length
                simp (disch:=first|assumption|omega) only[e18,e17,e88,e87,e10,e52,e15,fillV,g2,go_sem,↓reduceIte,Nat.reduceEqDiff,Nat.reduceAdd,Nat.reduceLeDiff,Nat.reduceLT,reduceIte,Int.reduceLT,Int.reduceLE,Int.reduceAdd]
                exact ⟨hzw, by omega, by omega, ⟨by simp (disch:=first|assumption|omega) only[e1,go_sem,↓reduceIte,Nat.reduceEqDiff,reduceIte], by simp (disch:=first|assumption|omega) only[e11,go_sem,↓reduceIte,Nat.reduceEqDiff,reduceIte], by simp (disch:=first|assumption|omega) only[e9,go_sem,↓reduceIte,Nat.reduceEqDiff,reduceIte], by simp (disch:=first|assumption|omega) only[e10,go_sem,↓reduceIte,Nat.reduceEqDiff,reduceIte], by simp (disch:=first|assumption|omega) only[e6,go_sem,↓reduceIte,Nat.reduceEqDiff,reduceIte], by simp (disch:=first|assumption|omega) only[e7,go_sem,↓reduceIte,Nat.reduceEqDiff,reduceIte], by simp (disch:=first|assumption|omega) only[e51,go_sem,↓reduceIte,Nat.reduceEqDiff,reduceIte], by simp (disch:=first|assumption|omega) only[b9,go_sem,↓reduceIte,Nat.reduceEqDiff,reduceIte], by simp (disch:=first|assumption|omega) only[b6,go_sem,↓reduceIte,Nat.reduceEqDiff,reduceIte], by simp (disch:=first|assumption|omega) only[b7,go_sem,↓reduceIte,Nat.reduceEqDiff,reduceIte]⟩, hT3, _, rfl, _, _, rfl, .inr ⟨_, rfl, hgx.app hz⟩, hx1⟩
              · have hz : MsgsOk em.got [] := by rw [hg0]; rfl
                simp (disch:=first|assumption|omega) only[e18,e17,e88,e87,e10,e52,e15,fillV,g2,go_sem,↓reduceIte,Nat.reduceEqDiff,Nat.reduceAdd,Nat.reduceLeDiff,Nat.reduceLT,reduceIte,Int.reduceLT,Int.reduceLE,Int.reduceAdd]
                have hgz : MsgsOk (s.g0 ++ em.got) gx := by simpa using hgx.app hz
                exact ⟨by omega, by omega, ⟨by simp (disch:=first|assumption|omega) only[e1,go_sem,↓reduceIte,Nat.reduceEqDiff,reduceIte], by simp (disch:=first|assumption|omega) only[e11,go_sem,↓reduceIte,Nat.reduceEqDiff,reduceIte], by simp (disch:=first|assumption|omega) only[e9,go_sem,↓reduceIte,Nat.reduceEqDiff,reduceIte], by simp (disch:=first|assumption|omega) only[e10,go_sem,↓reduceIte,Nat.reduceEqDiff,reduceIte], by simp (disch:=first|assumption|omega) only[e6,go_sem,↓reduceIte,Nat.reduceEqDiff,reduceIte], by simp (disch:=first|assumption|omega) only[e7,go_sem,↓reduceIte,Nat.reduceEqDiff,reduceIte], by simp (disch:=first|assumption|omega) only[e51,go_sem,↓reduceIte,Nat.reduceEqDiff,reduceIte], by simp (disch:=first|assumption|omega) only[b9,go_sem,↓reduceIte,Nat.reduceEqDiff,reduceIte], by simp (disch:=first|assumption|omega) only[b6,go_sem,↓reduceIte,Nat.reduceEqDiff,reduceIte], by simp (disch:=first|assumption|omega) only[b7,go_sem,↓reduceIte,Nat.reduceEqDiff,reduceIte]⟩, hT3, _, rfl, _, _, rfl, .inr ⟨_, rfl, hgz⟩, hx1⟩
              · have hz := hzs
                have hzw := hzs.width
                have hzl := hzs.length
                simp (disch:=first|assumption|omega) only[e18,e17,e88,e87,e10,e52,e15,fillV,g2,go_sem,↓reduceIte,Nat.reduceEqDiff,Nat.reduceAdd,Nat.reduceLeDiff,Nat.reduceLT,reduceIte,Int.reduceLT,Int.reduceLE,Int.reduceAdd]
                exact ⟨hzw, by omega, by omega, ⟨by simp (disch:=first|assumption|omega) only[e1,go_sem,↓reduceIte,Nat.reduceEqDiff,reduceIte], by simp (disch:=first|assumption|omega) only[e11,go_sem,↓reduceIte,Nat.reduceEqDiff,reduceIte], by simp (disch:=first|assumption|omega) only[e9,go_sem,↓reduceIte,Nat.reduceEqDiff,reduceIte], by simp (disch:=first|assumption|omega) only[e10,go_sem,↓reduceIte,Nat.reduceEqDiff,reduceIte], by simp (disch:=first|assumption|omega) only[e6,go_sem,↓reduceIte,Nat.reduceEqDiff,reduceIte], by simp (disch:=first|assumption|omega) only[e7,go_sem,↓reduceIte,Nat.reduceEqDiff,reduceIte], by simp (disch:=first|assumption|omega) only[e51,go_sem,↓reduceIte,Nat.reduceEqDiff,reduceIte], by simp (disch:=first|assumption|omega) only[b9,go_sem,↓reduceIte,Nat.reduceEqDiff,reduceIte], by simp (disch:=first|assumption|omega) only[b6,go_sem,↓reduceIte,Nat.reduceEqDiff,reduceIte], by simp (disch:=first|assumption|omega) only[b7,go_sem,↓reduceIte,Nat.reduceEqDiff,reduceIte]⟩, hT3, _, rfl, _, _, rfl, .inr ⟨_, rfl, hgx.app hz⟩, hx1⟩
            · clear e97 e96 e95 e18 e17 e88 e87 e1 e11 e9 e10 e6 e7 e51 b9 b6 b7 e52 e15 b10 tr
              clear Ms oe of
              rintro S4 ⟨e18, e17, e88, e87, ⟨e1, e11, e9, e10, e6, e7, e51, b9, b6, b7⟩, e52, e15, ⟨Ms, oe, of, tr⟩, gs, b10, hG⟩
              simp (disch:=first|assumption|omega) only[e18,e15,htc,go_sem,↓reduceIte,Nat.reduceEqDiff,reduceIte]
              refine callG_ok (Out_ok a oe 0 1 (emptied em) (3000 * (t : Int) + 1 + 1010 * 0 + L'.length + 1) t t _ (by simp (disch:=first|assumption|omega) only[go_sem]; exact tr.erm) (takeS_ok okm) (by omega)) (by simp (disch:=first|assumption|omega) only[go_sem]) ?_
              rintro v h4 ⟨hgv, hQE⟩
              simp (disch:=first|assumption|omega) only[go_sem] at hQE
              rw [hcl] at hgv hQE
              have hT4 := tr.upd hQE
              have okq : (outS (emptied em) t).ok (3000 * (t : Int) + 1 + 1010 * 0 + L'.length + 1 + 1) := outS_ok (takeS_ok okm) (by omega)
              obtain ⟨outs, hoe⟩ : ∃ outs, outs = outL (emptied em) 0 1 t t := ⟨_, rfl⟩
              rw [← hoe] at hgv
              have hol : outs.length ≤ 9 := by rw [hoe]; exact outL_len _ _ _ _ _
              have hsend : sendAll fs t (takeN s.net t 0) outs = some n' := by rw [hoe]; exact hsend
              obtain ⟨wo, ws, rfl, hws, hwo⟩ := hgv.cases
              have hrvw : ∃ q4, rdv (.lst wo ws) = .lst q4 ws ∧ Rdo q4 := by
                rcases hwo with ⟨rfl, _⟩ | rfl
                · exact ⟨.nil, rfl, .inr rfl⟩
                · exact ⟨.sh, rfl, .inl rfl⟩
              obtain ⟨q4, hrvw, hq4⟩ := hrvw
              have hwl := hws.length
              simp (disch:=first|assumption|omega) only[hrvw,hwl,go_sem,↓reduceIte,reduceIte]
              refine aw_count (fun d5 S' => ∃ (k : Nat) (net1 : NetP), k + d5 = outs.length ∧ sendAll fs t net1 (outs.drop k) = some n' ∧ S'.env 122 = .int .i64 k ∧ S'.env 121 = .int .i64 outs.length ∧ S'.env 120 = .lst wo ws ∧ S'.env 88 = .int .i64 0 ∧ S'.env 87 = .agg [.hp a 0, .hp b 0] ∧ LkE q puts ticks nid a b S' ∧ S'.env 52 = .int .i64 t ∧ S'.env 15 = .int .i64 t ∧ Two S'.heap nid a b 0 1 fs net1 (outS (emptied em) t) s.e1 ∧ S'.boxes 10 = some gs) (n := outs.length)
                ⟨0, takeN s.net t 0, by omega, hsend, by simp (disch:=first|assumption|omega) only[go_sem,↓reduceIte,reduceIte], by simp (disch:=first|assumption|omega) only[go_sem,↓reduceIte,Nat.reduceEqDiff,reduceIte], by simp (disch:=first|assumption|omega) only[go_sem,↓reduceIte,Nat.reduceEqDiff,reduceIte], by simp (disch:=first|assumption|omega) only[e88,go_sem,↓reduceIte,Nat.reduceEqDiff,reduceIte], by simp (disch:=first|assumption|omega) only[e87,go_sem,↓reduceIte,Nat.reduceEqDiff,reduceIte], ⟨by simp (disch:=first|assumption|omega) only[e1,go_sem,↓reduceIte,Nat.reduceEqDiff,reduceIte], by simp (disch:=first|assumption|omega) only[e11,go_sem,↓reduceIte,Nat.reduceEqDiff,reduceIte], by simp (disch:=first|assumption|omega) only[e9,go_sem,↓reduceIte,Nat.reduceEqDiff,reduceIte], by simp (disch:=first|assumption|omega) only[e10,go_sem,↓reduceIte,Nat.reduceEqDiff,reduceIte], by simp (disch:=first|assumption|omega) only[e6,go_sem,↓reduceIte,Nat.reduceEqDiff,reduceIte], by simp (disch:=first|assumption|omega) only[e7,go_sem,↓reduceIte,Nat.reduceEqDiff,reduceIte], by simp (disch:=first|assumption|omega) only[e51,go_sem,↓reduceIte,Nat.reduceEqDiff,reduceIte], by simp (disch:=first|assumption|omega) only[b9,go_sem], by simp (disch:=first|assumption|omega) only[b6,go_sem], by simp (disch:=first|assumption|omega) only[b7,go_sem]⟩, by simp (disch:=first|assumption|omega) only[e52,go_sem,↓reduceIte,Nat.reduceEqDiff,reduceIte], by simp (disch:=first|assumption|omega) only[e15,go_sem,↓reduceIte,Nat.reduceEqDiff,reduceIte], by simp (disch:=first|assumption|omega) only[go_sem]; exact hT4, by simp (disch:=first|assumption|omega) only[b10,go_sem]⟩ ?_
              clear e18 e17 e88 e87 e1 e11 e9 e10 e6 e7 e51 b9 b6 b7 e52 e15 b10 hT4 hsend tr hQE
              clear Ms oe of
              rintro d5 S5 ⟨k, net1, hk5, hsend, e122, e121, e120, e88, e87, ⟨e1, e11, e9, e10, e6, e7, e51, b9, b6, b7⟩, e52, e15, ⟨Ms, oe, of, tr⟩, b10⟩
              by_cases hlt5 : (k : Int) < outs.length
              · have hk6 : k < outs.length := by omega
                obtain ⟨om, hom, homl, hat⟩ := hws.at k hk6
                have hdk : outs.drop k = outs[k] :: outs.drop (k + 1) := List.drop_eq_getElem_cons hk6
                rw [hdk] at hsend
                obtain ⟨hse, hs2⟩ := sendAll_cons hsend
                generalize outs[k] = m at *
                simp only[msgA,msgC] at hat
                have hnl : net1.2.length = Ms.length := by rw [← tr.ms, List.length_map]
                rw [hnl] at hse
                have hbd := sendP_bd fs t m.From
                have hom1 := hom.1
                simp (disch:=first|assumption|omega) only[e122,e121,e120,e11,e15,hlt5,hat,hrvw,hwl,fillV,go_sem,↓reduceIte,Nat.reduceEqDiff,Nat.reduceAdd,Nat.reduceLeDiff,reduceIte,Int.reduceAdd]
                refine callG_ok (NetSend_ok nid fs net1.1 t Ms om m hom homl hfl _ (by simp (disch:=first|assumption|omega) only[go_sem]; exact tr.nr)) (by simp (disch:=first|assumption|omega) only[go_sem]) ?_
                rintro _ h6 ⟨rfl, _, hS2⟩
                obtain ⟨hf6, Ns, hNs, hNb, hn6⟩ := hS2 hse
                simp (disch:=first|assumption|omega) only[go_sem] at hf6
                have hT6 : Two h6 nid a b 0 1 fs (t, net1.2 ++ copies fs t m) (outS (emptied em) t) s.e1 := ⟨Ms ++ Ns, oe, of, tr.upn (net' := (t, net1.2 ++ copies fs t m)) hn6 (by rw [List.map_append, tr.ms, hNs]; rfl) (tr.way.app (way_of2 hNs (by omega) (sendE_fine hse) hNb)) hf6⟩
                simp (disch:=first|assumption|omega) only[e122,e121,e120,e88,e87,e52,e15,b10,hse,go_sem,↓reduceIte,Nat.reduceEqDiff,reduceIte]
                exact ⟨d5 - 1, by omega, k + 1, _, by omega, hs2, by simp, ⟨by simp (disch:=first|assumption|omega) only[e1,go_sem,↓reduceIte,Nat.reduceEqDiff,reduceIte], by simp (disch:=first|assumption|omega) only[e11,go_sem,↓reduceIte,Nat.reduceEqDiff,reduceIte], by simp (disch:=first|assumption|omega) only[e9,go_sem,↓reduceIte,Nat.reduceEqDiff,reduceIte], by simp (disch:=first|assumption|omega) only[e10,go_sem,↓reduceIte,Nat.reduceEqDiff,reduceIte], by simp (disch:=first|assumption|omega) only[e6,go_sem,↓reduceIte,Nat.reduceEqDiff,reduceIte], by simp (disch:=first|assumption|omega) only[e7,go_sem,↓reduceIte,Nat.reduceEqDiff,reduceIte], by simp (disch:=first|assumption|omega) only[e51,go_sem,↓reduceIte,Nat.reduceEqDiff,reduceIte], by simp (disch:=first|assumption|omega) only[b9,go_sem,↓reduceIte,Nat.reduceEqDiff,reduceIte], by simp (disch:=first|assumption|omega) only[b6,go_sem,↓reduceIte,Nat.reduceEqDiff,reduceIte], by simp (disch:=first|assumption|omega) only[b7,go_sem,↓reduceIte,Nat.reduceEqDiff,reduceIte]⟩, hT6⟩
              · obtain rfl : k = outs.length := by omega
                rw [List.drop_length] at hsend
                obtain rfl : net1 = n' := Option.some.inj hsend
                have hT7 : Two S5.heap nid a b 0 1 fs net1 (outS (emptied em) t) s.e1 := ⟨Ms, oe, of, tr⟩
                simp (disch:=first|assumption|omega) only[e122,e121,e88,e87,e52,e15,b10,hlt5,go_sem,↓reduceIte,Nat.reduceEqDiff,reduceIte]
                exact ⟨d2 - 1, by omega, 0 + 1, { s with e0 := outS (emptied em) t, net := net1, g0 := s.g0 ++ em.got }, by omega, (by simp only[remP]; exact Option.bind_eq_some_iff.2 ⟨s5, hD, hB⟩), by rfl, ⟨by simp (disch:=first|assumption|omega) only[e1,go_sem,↓reduceIte,Nat.reduceEqDiff,reduceIte], by simp (disch:=first|assumption|omega) only[e11,go_sem,↓reduceIte,Nat.reduceEqDiff,reduceIte], by simp (disch:=first|assumption|omega) only[e9,go_sem,↓reduceIte,Nat.reduceEqDiff,reduceIte], by simp (disch:=first|assumption|omega) only[e10,go_sem,↓reduceIte,Nat.reduceEqDiff,reduceIte], by simp (disch:=first|assumption|omega) only[e6,go_sem,↓reduceIte,Nat.reduceEqDiff,reduceIte], by simp (disch:=first|assumption|omega) only[e7,go_sem,↓reduceIte,Nat.reduceEqDiff,reduceIte], by simp (disch:=first|assumption|omega) only[e51,go_sem,↓reduceIte,Nat.reduceEqDiff,reduceIte], by simp (disch:=first|assumption|omega) only[b9,go_sem], by simp (disch:=first|assumption|omega) only[b6,go_sem], by simp (disch:=first|assumption|omega) only[b7,go_sem]⟩, hT7, ok_mono okq (by omega), ok_mono ok1 (by omega), by simp only[List.length_append]; omega, by simp only; omega, _, rfl, hG⟩
        · simp only[remP] at hA
          unfold end1 at hA
          obtain ⟨r, hr, rfl⟩ := Option.map_eq_some_iff.1 hA
          obtain ⟨em1, n', hin, hsend, rfl⟩ := endP_some hr
          obtain ⟨Ms, oe, of, tr⟩ := hT.swap
          simp (disch:=first|assumption|omega) only[e88,e87,e11,e15,c11,g1,g2,go_sem,↓reduceIte,Nat.reduceEqDiff,Nat.reduceAdd,Nat.reduceLT,reduceIte,Int.reduceLT,Int.reduceLE,Int.reduceAdd,Int.reduceMul,Nat.reduceMul]
          refine callG_ok (NetTakeRS_ok nid fs s.net.1 t 1 Ms (fun x hx => ⟨(tr.way x hx).1, by have := (tr.way x hx).2.1; omega⟩) _ (by simp (disch:=first|assumption|omega) only[go_sem]; exact tr.nr)) (by simp (disch:=first|assumption|omega) only[go_sem]) ?_
          rintro v h2 ⟨L', hst, hov, hn2, hf2⟩
          simp (disch:=first|assumption|omega) only[go_sem] at hf2
          have htm := takeM_of tr.ms tr.way hst
          have hT2 : Two h2 nid b a 1 0 fs (takeN s.net t 1) s.e1 s.e0 := ⟨_, oe, of, tr.upn (net' := takeN s.net t 1) hn2 (takeN_of tr.ms) (tr.way.filter _) hf2⟩
          have hLi : ∀ x ∈ L', checkF x.2.1 = 0 ∧ (x.1 = false → x.2.1.Cells = []) := fun x hx => (tr.way x (List.mem_filter.1 (hst.perm.mem_iff.1 hx)).1).2.2
          have hLl : L'.length ≤ 1000 := by
            have h1 : Ms.length ≤ 1000 := by obtain ⟨_, _, _, _, _, h⟩ := tr.nr; exact h
            rw [hst.perm.length_eq]; exact Nat.le_trans (List.length_filter_le _ _) h1
          have hlo : (L'.map outA).length = L'.length := List.length_map _
          rw [← htm] at hin
          obtain ⟨ov, rfl, hov3⟩ := hov.cases
          have hrv : ∃ q3, rdv (.lst ov (L'.map outA)) = .lst q3 (L'.map outA) ∧ Rdo q3 := by
            rcases hov3 with rfl | rfl
            · exact ⟨.nil, rfl, .inr rfl⟩
            · exact ⟨.sh, rfl, .inl rfl⟩
          obtain ⟨q3, hrv, hq3⟩ := hrv
          clear hst hov3 hn2 hf2 htm tr
          clear Ms oe of
          simp (disch:=first|assumption|omega) only[hlo,hrv,go_sem,↓reduceIte,reduceIte]
          refine aw_count (fun d3 S' => ∃ (k : Nat) (em : Lk), k + d3 = L'.length ∧ inAll 1 0 em ((L'.drop k).map (·.2.1)) = some em1 ∧ S'.env 97 = .int .i64 k ∧ S'.env 96 = .int .i64 L'.length ∧ S'.env 95 = .lst ov (L'.map outA) ∧ S'.env 18 = .hp b 0 ∧ S'.env 17 = .int .i64 1 ∧ S'.env 88 = .int .i64 1 ∧ S'.env 87 = .agg [.hp a 0, .hp b 0] ∧ LkE q puts ticks nid a b S' ∧ S'.env 52 = .int .i64 t ∧ S'.env 15 = .int .i64 t ∧ Two S'.heap nid b a 1 0 fs (takeN s.net t 1) em s.e0 ∧ em.ok (3000 * (t : Int) + 1 + 1010 * 1 + k) ∧ S'.boxes 10 = some [x0, x1]) (n := L'.length)
            ⟨0, s.e1, by omega, hin, by simp (disch:=first|assumption|omega) only[go_sem,↓reduceIte,reduceIte], by simp (disch:=first|assumption|omega) only[go_sem,↓reduceIte,Nat.reduceEqDiff,reduceIte], by simp (disch:=first|assumption|omega) only[go_sem,↓reduceIte,Nat.reduceEqDiff,reduceIte], by simp (disch:=first|assumption|omega) only[go_sem,↓reduceIte,Nat.reduceEqDiff,reduceIte], by simp (disch:=first|assumption|omega) only[go_sem,↓reduceIte,Nat.reduceEqDiff,reduceIte], by simp (disch:=first|assumption|omega) only[e88,c11,go_sem,↓reduceIte,Nat.reduceEqDiff,reduceIte], by simp (disch:=first|assumption|omega) only[e87,go_sem,↓reduceIte,Nat.reduceEqDiff,reduceIte], ⟨by simp (disch:=first|assumption|omega) only[e1,go_sem,↓reduceIte,Nat.reduceEqDiff,reduceIte], by simp (disch:=first|assumption|omega) only[e11,go_sem,↓reduceIte,Nat.reduceEqDiff,reduceIte], by simp (disch:=first|assumption|omega) only[e9,go_sem,↓reduceIte,Nat.reduceEqDiff,reduceIte], by simp (disch:=first|assumption|omega) only[e10,go_sem,↓reduceIte,Nat.reduceEqDiff,reduceIte], by simp (disch:=first|assumption|omega) only[e6,go_sem,↓reduceIte,Nat.reduceEqDiff,reduceIte], by simp (disch:=first|assumption|omega) only[e7,go_sem,↓reduceIte,Nat.reduceEqDiff,reduceIte], by simp (disch:=first|assumption|omega) only[e51,go_sem,↓reduceIte,Nat.reduceEqDiff,reduceIte], by simp (disch:=first|assumption|omega) only[b9,go_sem], by simp (disch:=first|assumption|omega) only[b6,go_sem], by simp (disch:=first|assumption|omega) only[b7,go_sem]⟩, by simp (disch:=first|assumption|omega) only[e52,go_sem,↓reduceIte,Nat.reduceEqDiff,reduceIte], by simp (disch:=first|assumption|omega) only[e15,go_sem,↓reduceIte,Nat.reduceEqDiff,reduceIte], by simp (disch:=first|assumption|omega) only[go_sem]; exact hT2, ok_mono ok1 (by omega), by simp (disch:=first|assumption|omega) only[b10,go_sem]⟩ ?_
          clear e88 e87 e1 e11 e9 e10 e6 e7 e51 b9 b6 b7 e52 e15 b10 hT2 hin ok1
          rintro d3 S3 ⟨k, em, hk, hin, e97, e96, e95, e18, e17, e88, e87, ⟨e1, e11, e9, e10, e6, e7, e51, b9, b6, b7⟩, e52, e15, hT2, okm, b10⟩
          by_cases hlt2 : (k : Int) < L'.length
          · have hk1 : k < L'.length := by omega
            have hat := at_outF hk1
            have hdk : L'.drop k = L'[k] :: L'.drop (k + 1) := List.drop_eq_getElem_cons hk1
            have hxi := hLi _ (List.getElem_mem hk1)
            rw [hdk, List.map_cons] at hin
            obtain ⟨hie, hin2⟩ := inAll_cons hin
            generalize L'[k] = x at *
            have hob := ownB_rdo x.1
            have hcl2 := checkF_len hxi.1
            simp only[msgA,msgC] at hat
            obtain ⟨Ms, oe, of, tr⟩ := hT2
            simp (disch:=first|assumption|omega) only[e97,e96,e95,e18,hlt2,hat,hrv,hlo,fillV,go_sem,↓reduceIte,Nat.reduceEqDiff,Nat.reduceAdd,Nat.reduceLeDiff,reduceIte,Int.reduceAdd,Int.reduceMul,Nat.reduceMul]
            refine callG_ok (In_ok b oe 1 0 em (3000 * (t : Int) + 1 + 1010 * 1 + k) (ownB x.1) x.2.1 _ (by simp (disch:=first|assumption|omega) only[go_sem]; exact tr.erm) okm (by omega) ⟨hob, fun e => hxi.2 (by cases hb : x.1; rfl; rw [hb] at e; cases e)⟩ (by omega)) (by simp (disch:=first|assumption|omega) only[go_sem]) ?_
            rintro _ h3 ⟨rfl, hQE⟩
            simp (disch:=first|assumption|omega) only[go_sem] at hQE
            have hT3 := tr.upd hQE
            simp (disch:=first|assumption|omega) only[e97,e96,e95,e18,e17,e88,e87,e52,e15,b10,hie,go_sem,↓reduceIte,Nat.reduceEqDiff,reduceIte]
            exact ⟨d3 - 1, by omega, k + 1, inS em 1 0 x.2.1, by omega, hin2, by simp, ⟨by simp (disch:=first|assumption|omega) only[e1,go_sem,↓reduceIte,Nat.reduceEqDiff,reduceIte], by simp (disch:=first|assumption|omega) only[e11,go_sem,↓reduceIte,Nat.reduceEqDiff,reduceIte], by simp (disch:=first|assumption|omega) only[e9,go_sem,↓reduceIte,Nat.reduceEqDiff,reduceIte], by simp (disch:=first|assumption|omega) only[e10,go_sem,↓reduceIte,Nat.reduceEqDiff,reduceIte], by simp (disch:=first|assumption|omega) only[e6,go_sem,↓reduceIte,Nat.reduceEqDiff,reduceIte], by simp (disch:=first|assumption|omega) only[e7,go_sem,↓reduceIte,Nat.reduceEqDiff,reduceIte], by simp (disch:=first|assumption|omega) only[e51,go_sem,↓reduceIte,Nat.reduceEqDiff,reduceIte], by simp (disch:=first|assumption|omega) only[b9,go_sem,↓reduceIte,Nat.reduceEqDiff,reduceIte], by simp (disch:=first|assumption|omega) only[b6,go_sem,↓reduceIte,Nat.reduceEqDiff,reduceIte], by simp (disch:=first|assumption|omega) only[b7,go_sem,↓reduceIte,Nat.reduceEqDiff,reduceIte]⟩, hT3, ok_mono (inS_ok okm) (by omega)⟩
          · obtain rfl : k = L'.length := by omega
            rw [List.drop_length] at hin
            obtain rfl : em = em1 := Option.some.inj hin
            obtain ⟨Ms, oe, of, tr⟩ := hT2
            obtain ⟨go, gx, rfl, hgx, hgo⟩ := hx1.cases
            simp (disch:=first|assumption|omega) only[e97,e96,e18,e17,e10,b10,hlt2,g2,g1,go_sem,↓reduceIte,Nat.reduceEqDiff,Nat.reduceAdd,Nat.reduceLT,reduceIte,Int.reduceLT,Int.reduceLE,Int.reduceAdd,Int.reduceMul,Nat.reduceMul]
            have hgl := okm.got
            refine callG_cut (fun S' => S'.env 18 = .hp b 0 ∧ S'.env 17 = .int .i64 1 ∧ S'.env 88 = .int .i64 1 ∧ S'.env 87 = .agg [.hp a 0, .hp b 0] ∧ LkE q puts ticks nid a b S' ∧ S'.env 52 = .int .i64 t ∧ S'.env 15 = .int .i64 t ∧ Two S'.heap nid b a 1 0 fs (takeN s.net t 1) (emptied em) s.e0 ∧ ∃ gs, S'.boxes 10 = some gs ∧ GotsR gs (s.g0) (s.g1 ++ em.got)) ?_ ?_
            · refine callG_ok (Take_ok b oe 1 0 em _ (by simp (disch:=first|assumption|omega) only[go_sem]; exact tr.erm)) (by simp (disch:=first|assumption|omega) only[go_sem]) ?_
              rintro v h3 ⟨hgv, hQE⟩
              simp (disch:=first|assumption|omega) only[go_sem] at hQE
              have hT3 := tr.upd hQE
              have hgxl := hgx.length
              rcases hgo with ⟨rfl, rfl⟩ | rfl <;> rcases hgv with ⟨rfl, hg0⟩ | ⟨zs, rfl, hzs⟩
              · have hz : MsgsOk em.got [] := by rw [hg0]; rfl
                simp (disch:=first|assumption|omega) only[e18,e17,e88,e87,e10,e52,e15,fillV,g1,g2,go_sem,↓reduceIte,Nat.reduceEqDiff,Nat.reduceAdd,Nat.reduceLeDiff,Nat.reduceLT,reduceIte,Int.reduceLT,Int.reduceLE,Int.reduceAdd,Int.reduceMul,Nat.reduceMul]
                exact ⟨⟨by simp (disch:=first|assumption|omega) only[e1,go_sem,↓reduceIte,Nat.reduceEqDiff,reduceIte], by simp (disch:=first|assumption|omega) only[e11,go_sem,↓reduceIte,Nat.reduceEqDiff,reduceIte], by simp (disch:=first|assumption|omega) only[e9,go_sem,↓reduceIte,Nat.reduceEqDiff,reduceIte], by simp (disch:=first|assumption|omega) only[e10,go_sem,↓reduceIte,Nat.reduceEqDiff,reduceIte], by simp (disch:=first|assumption|omega) only[e6,go_sem,↓reduceIte,Nat.reduceEqDiff,reduceIte], by simp (disch:=first|assumption|omega) only[e7,go_sem,↓reduceIte,Nat.reduceEqDiff,reduceIte], by simp (disch:=first|assumption|omega) only[e51,go_sem,↓reduceIte,Nat.reduceEqDiff,reduceIte], by simp (disch:=first|assumption|omega) only[b9,go_sem,↓reduceIte,Nat.reduceEqDiff,reduceIte], by simp (disch:=first|assumption|omega) only[b6,go_sem,↓reduceIte,Nat.reduceEqDiff,reduceIte], by simp (disch:=first|assumption|omega) only[b7,go_sem,↓reduceIte,Nat.reduceEqDiff,reduceIte]⟩, hT3, _, rfl, _, _, rfl, hx0, .inr ⟨_, rfl, hgx.app hz⟩⟩
              · have hz := hzs
                have hzw := hzs.width
                have hzl := hzs.length
                simp (disch:=first|assumption|omega) only[e18,e17,e88,e87,e10,e52,e15,fillV,g1,g2,go_sem,↓reduceIte,Nat.reduceEqDiff,Nat.reduceAdd,Nat.reduceLeDiff,Nat.reduceLT,reduceIte,Int.reduceLT,Int.reduceLE,Int.reduceAdd,Int.reduceMul,Nat.reduceMul]
                exact ⟨hzw, by omega, by omega, ⟨by simp (disch:=first|assumption|omega) only[e1,go_sem,↓reduceIte,Nat.reduceEqDiff,reduceIte], by simp (disch:=first|assumption|omega) only[e11,go_sem,↓reduceIte,Nat.reduceEqDiff,reduceIte], by simp (disch:=first|assumption|omega) only[e9,go_sem,↓reduceIte,Nat.reduceEqDiff,reduceIte], by simp (disch:=first|assumption|omega) only[e10,go_sem,↓reduceIte,Nat.reduceEqDiff,reduceIte], by simp (disch:=first|assumption|omega) only[e6,go_sem,↓reduceIte,Nat.reduceEqDiff,reduceIte], by simp (disch:=first|assumption|omega) only[e7,go_sem,↓reduceIte,Nat.reduceEqDiff,reduceIte], by simp (disch:=first|assumption|omega) only[e51,go_sem,↓reduceIte,Nat.reduceEqDiff,reduceIte], by simp (disch:=first|assumption|omega) only[b9,go_sem,↓reduceIte,Nat.reduceEqDiff,reduceIte], by simp (disch:=first|assumption|omega) only[b6,go_sem,↓reduceIte,Nat.reduceEqDiff,reduceIte], by simp (disch:=first|assumption|omega) only[b7,go_sem,↓reduceIte,Nat.reduceEqDiff,reduceIte]⟩, hT3, _, rfl, _, _, rfl, hx0, .inr ⟨_, rfl, hgx.app hz⟩⟩
              · have hz : MsgsOk em.got [] := by rw [hg0]; rfl
                simp (disch:=first|assumption|omega) only[e18,e17,e88,e87,e10,e52,e15,fillV,g1,g2,go_sem,↓reduceIte,Nat.reduceEqDiff,Nat.reduceAdd,Nat.reduceLeDiff,Nat.reduceLT,reduceIte,Int.reduceLT,Int.reduceLE,Int.reduceAdd,Int.reduceMul,Nat.reduceMul]
                have hgz : MsgsOk (s.g1 ++ em.got) gx := by simpa using hgx.app hz
                exact ⟨by omega, by omega, ⟨by simp (disch:=first|assumption|omega) only[e1,go_sem,↓reduceIte,Nat.reduceEqDiff,reduceIte], by simp (disch:=first|assumption|omega) only[e11,go_sem,↓reduceIte,Nat.reduceEqDiff,reduceIte], by simp (disch:=first|assumption|omega) only[e9,go_sem,↓reduceIte,Nat.reduceEqDiff,reduceIte], by simp (disch:=first|assumption|omega) only[e10,go_sem,↓reduceIte,Nat.reduceEqDiff,reduceIte], by simp (disch:=first|assumption|omega) only[e6,go_sem,↓reduceIte,Nat.reduceEqDiff,reduceIte], by simp (disch:=first|assumption|omega) only[e7,go_sem,↓reduceIte,Nat.reduceEqDiff,reduceIte], by simp (disch:=first|assumption|omega) only[e51,go_sem,↓reduceIte,Nat.reduceEqDiff,reduceIte], by simp (disch:=first|assumption|omega) only[b9,go_sem,↓reduceIte,Nat.reduceEqDiff,reduceIte], by simp (disch:=first|assumption|omega) only[b6,go_sem,↓reduceIte,Nat.reduceEqDiff,reduceIte], by simp (disch:=first|assumption|omega) only[b7,go_sem,↓reduceIte,Nat.reduceEqDiff,reduceIte]⟩, hT3, _, rfl, _, _, rfl, hx0, .inr ⟨_, rfl, hgz⟩⟩
              · have hz := hzs
                have hzw := hzs.width
                have hzl := hzs.length
                simp (disch:=first|assumption|omega) only[e18,e17,e88,e87,e10,e52,e15,fillV,g1,g2,go_sem,↓reduceIte,Nat.reduceEqDiff,Nat.reduceAdd,Nat.reduceLeDiff,Nat.reduceLT,reduceIte,Int.reduceLT,Int.reduceLE,Int.reduceAdd,Int.reduceMul,Nat.reduceMul]
                exact ⟨hzw, by omega, by omega, ⟨by simp (disch:=first|assumption|omega) only[e1,go_sem,↓reduceIte,Nat.reduceEqDiff,reduceIte], by simp (disch:=first|assumption|omega) only[e11,go_sem,↓reduceIte,Nat.reduceEqDiff,reduceIte], by simp (disch:=first|assumption|omega) only[e9,go_sem,↓reduceIte,Nat.reduceEqDiff,reduceIte], by simp (disch:=first|assumption|omega) only[e10,go_sem,↓reduceIte,Nat.reduceEqDiff,reduceIte], by simp (disch:=first|assumption|omega) only[e6,go_sem,↓reduceIte,Nat.reduceEqDiff,reduceIte], by simp (disch:=first|assumption|omega) only[e7,go_sem,↓reduceIte,Nat.reduceEqDiff,reduceIte], by simp (disch:=first|assumption|omega) only[e51,go_sem,↓reduceIte,Nat.reduceEqDiff,reduceIte], by simp (disch:=first|assumption|omega) only[b9,go_sem,↓reduceIte,Nat.reduceEqDiff,reduceIte], by simp (disch:=first|assumption|omega) only[b6,go_sem,↓reduceIte,Nat.reduceEqDiff,reduceIte], by simp (disch:=first|assumption|omega) only[b7,go_sem,↓reduceIte,Nat.reduceEqDiff,reduceIte]⟩, hT3, _, rfl, _, _, rfl, hx0, .inr ⟨_, rfl, hgx.app hz⟩⟩
            · clear e97 e96 e95 e18 e17 e88 e87 e1 e11 e9 e10 e6 e7 e51 b9 b6 b7 e52 e15 b10 tr
              clear Ms oe of
              rintro S4 ⟨e18, e17, e88, e87, ⟨e1, e11, e9, e10, e6, e7, e51, b9, b6, b7⟩, e52, e15, ⟨Ms, oe, of, tr⟩, gs, b10, hG⟩
              simp (disch:=first|assumption|omega) only[e18,e15,htc,go_sem,↓reduceIte,Nat.reduceEqDiff,reduceIte]
              refine callG_ok (Out_ok b oe 1 0 (emptied em) (3000 * (t : Int) + 1 + 1010 * 1 + L'.length + 1) t t _ (by simp (disch:=first|assumption|omega) only[go_sem]; exact tr.erm) (takeS_ok okm) (by omega)) (by simp (disch:=first|assumption|omega) only[go_sem]) ?_
              rintro v h4 ⟨hgv, hQE⟩
              simp (disch:=first|assumption|omega) only[go_sem] at hQE
              rw [hcl] at hgv hQE
              have hT4 := tr.upd hQE
              have okq : (outS (emptied em) t).ok (3000 * (t : Int) + 1 + 1010 * 1 + L'.length + 1 + 1) := outS_ok (takeS_ok okm) (by omega)
              obtain ⟨outs, hoe⟩ : ∃ outs, outs = outL (emptied em) 1 0 t t := ⟨_, rfl⟩
              rw [← hoe] at hgv
              have hol : outs.length ≤ 9 := by rw [hoe]; exact outL_len _ _ _ _ _
              have hsend : sendAll fs t (takeN s.net t 1) outs = some n' := by rw [hoe]; exact hsend
              obtain ⟨wo, ws, rfl, hws, hwo⟩ := hgv.cases
              have hrvw : ∃ q4, rdv (.lst wo ws) = .lst q4 ws ∧ Rdo q4 := by
                rcases hwo with ⟨rfl, _⟩ | rfl
                · exact ⟨.nil, rfl, .inr rfl⟩
                · exact ⟨.sh, rfl, .inl rfl⟩
              obtain ⟨q4, hrvw, hq4⟩ := hrvw
              have hwl := hws.length
              simp (disch:=first|assumption|omega) only[hrvw,hwl,go_sem,↓reduceIte,reduceIte]
              refine aw_count (fun d5 S' => ∃ (k : Nat) (net1 : NetP), k + d5 = outs.length ∧ sendAll fs t net1 (outs.drop k) = some n' ∧ S'.env 122 = .int .i64 k ∧ S'.env 121 = .int .i64 outs.length ∧ S'.env 120 = .lst wo ws ∧ S'.env 88 = .int .i64 1 ∧ S'.env 87 = .agg [.hp a 0, .hp b 0] ∧ LkE q puts ticks nid a b S' ∧ S'.env 52 = .int .i64 t ∧ S'.env 15 = .int .i64 t ∧ Two S'.heap nid b a 1 0 fs net1 (outS (emptied em) t) s.e0 ∧ S'.boxes 10 = some gs) (n := outs.length)
                ⟨0, takeN s.net t 1, by omega, hsend, by simp (disch:=first|assumption|omega) only[go_sem,↓reduceIte,reduceIte], by simp (disch:=first|assumption|omega) only[go_sem,↓reduceIte,Nat.reduceEqDiff,reduceIte], by simp (disch:=first|assumption|omega) only[go_sem,↓reduceIte,Nat.reduceEqDiff,reduceIte], by simp (disch:=first|assumption|omega) only[e88,go_sem,↓reduceIte,Nat.reduceEqDiff,reduceIte], by simp (disch:=first|assumption|omega) only[e87,go_sem,↓reduceIte,Nat.reduceEqDiff,reduceIte], ⟨by simp (disch:=first|assumption|omega) only[e1,go_sem,↓reduceIte,Nat.reduceEqDiff,reduceIte], by simp (disch:=first|assumption|omega) only[e11,go_sem,↓reduceIte,Nat.reduceEqDiff,reduceIte], by simp (disch:=first|assumption|omega) only[e9,go_sem,↓reduceIte,Nat.reduceEqDiff,reduceIte], by simp (disch:=first|assumption|omega) only[e10,go_sem,↓reduceIte,Nat.reduceEqDiff,reduceIte], by simp (disch:=first|assumption|omega) only[e6,go_sem,↓reduceIte,Nat.reduceEqDiff,reduceIte], by simp (disch:=first|assumption|omega) only[e7,go_sem,↓reduceIte,Nat.reduceEqDiff,reduceIte], by simp (disch:=first|assumption|omega) only[e51,go_sem,↓reduceIte,Nat.reduceEqDiff,reduceIte], by simp (disch:=first|assumption|omega) only[b9,go_sem], by simp (disch:=first|assumption|omega) only[b6,go_sem], by simp (disch:=first|assumption|omega) only[b7,go_sem]⟩, by simp (disch:=first|assumption|omega) only[e52,go_sem,↓reduceIte,Nat.reduceEqDiff,reduceIte], by simp (disch:=first|assumption|omega) only[e15,go_sem,↓reduceIte,Nat.reduceEqDiff,reduceIte], by simp (disch:=first|assumption|omega) only[go_sem]; exact hT4, by simp (disch:=first|assumption|omega) only[b10,go_sem]⟩ ?_
              clear e18 e17 e88 e87 e1 e11 e9 e10 e6 e7 e51 b9 b6 b7 e52 e15 b10 hT4 hsend tr hQE
              clear Ms oe of
              rintro d5 S5 ⟨k, net1, hk5, hsend, e122, e121, e120, e88, e87, ⟨e1, e11, e9, e10, e6, e7, e51, b9, b6, b7⟩, e52, e15, ⟨Ms, oe, of, tr⟩, b10⟩
              by_cases hlt5 : (k : Int) < outs.length
              · have hk6 : k < outs.length := by omega
                obtain ⟨om, hom, homl, hat⟩ := hws.at k hk6
                have hdk : outs.drop k = outs[k] :: outs.drop (k + 1) := List.drop_eq_getElem_cons hk6
                rw [hdk] at hsend
                obtain ⟨hse, hs2⟩ := sendAll_cons hsend
                generalize outs[k] = m at *
                simp only[msgA,msgC] at hat
                have hnl : net1.2.length = Ms.length := by rw [← tr.ms, List.length_map]
                rw [hnl] at hse
                have hbd := sendP_bd fs t m.From
                have hom1 := hom.1
                simp (disch:=first|assumption|omega) only[e122,e121,e120,e11,e15,hlt5,hat,hrvw,hwl,fillV,go_sem,↓reduceIte,Nat.reduceEqDiff,Nat.reduceAdd,Nat.reduceLeDiff,reduceIte,Int.reduceAdd]
                refine callG_ok (NetSend_ok nid fs net1.1 t Ms om m hom homl hfl _ (by simp (disch:=first|assumption|omega) only[go_sem]; exact tr.nr)) (by simp (disch:=first|assumption|omega) only[go_sem]) ?_
                rintro _ h6 ⟨rfl, _, hS2⟩
                obtain ⟨hf6, Ns, hNs, hNb, hn6⟩ := hS2 hse
                simp (disch:=first|assumption|omega) only[go_sem] at hf6
                have hT6 : Two h6 nid b a 1 0 fs (t, net1.2 ++ copies fs t m) (outS (emptied em) t) s.e0 := ⟨Ms ++ Ns, oe, of, tr.upn (net' := (t, net1.2 ++ copies fs t m)) hn6 (by rw [List.map_append, tr.ms, hNs]; rfl) (tr.way.app (way_of2 hNs (by omega) (sendE_fine hse) hNb)) hf6⟩
                simp (disch:=first|assumption|omega) only[e122,e121,e120,e88,e87,e52,e15,b10,hse,go_sem,↓reduceIte,Nat.reduceEqDiff,reduceIte]
                exact ⟨d5 - 1, by omega, k + 1, _, by omega, hs2, by simp, ⟨by simp (disch:=first|assumption|omega) only[e1,go_sem,↓reduceIte,Nat.reduceEqDiff,reduceIte], by simp (disch:=first|assumption|omega) only[e11,go_sem,↓reduceIte,Nat.reduceEqDiff,reduceIte], by simp (disch:=first|assumption|omega) only[e9,go_sem,↓reduceIte,Nat.reduceEqDiff,reduceIte], by simp (disch:=first|assumption|omega) only[e10,go_sem,↓reduceIte,Nat.reduceEqDiff,reduceIte], by simp (disch:=first|assumption|omega) only[e6,go_sem,↓reduceIte,Nat.reduceEqDiff,reduceIte], by simp (disch:=first|assumption|omega) only[e7,go_sem,↓reduceIte,Nat.reduceEqDiff,reduceIte], by simp (disch:=first|assumption|omega) only[e51,go_sem,↓reduceIte,Nat.reduceEqDiff,reduceIte], by simp (disch:=first|assumption|omega) only[b9,go_sem,↓reduceIte,Nat.reduceEqDiff,reduceIte], by simp (disch:=first|assumption|omega) only[b6,go_sem,↓reduceIte,Nat.reduceEqDiff,reduceIte], by simp (disch:=first|assumption|omega) only[b7,go_sem,↓reduceIte,Nat.reduceEqDiff,reduceIte]⟩, hT6⟩
              · obtain rfl : k = outs.length := by omega
                rw [List.drop_length] at hsend
                obtain rfl : net1 = n' := Option.some.inj hsend
                have hT7 : Two S5.heap nid b a 1 0 fs net1 (outS (emptied em) t) s.e0 := ⟨Ms, oe, of, tr⟩
                simp (disch:=first|assumption|omega) only[e122,e121,e88,e87,e52,e15,b10,hlt5,go_sem,↓reduceIte,Nat.reduceEqDiff,Nat.reduceAdd,reduceIte,Int.reduceAdd]
                exact ⟨d2 - 1, by omega, 1 + 1, { s with e1 := outS (emptied em) t, net := net1, g1 := s.g1 ++ em.got }, by omega, (by simp only[remP]; exact hB), by rfl, ⟨by simp (disch:=first|assumption|omega) only[e1,go_sem,↓reduceIte,Nat.reduceEqDiff,reduceIte], by simp (disch:=first|assumption|omega) only[e11,go_sem,↓reduceIte,Nat.reduceEqDiff,reduceIte], by simp (disch:=first|assumption|omega) only[e9,go_sem,↓reduceIte,Nat.reduceEqDiff,reduceIte], by simp (disch:=first|assumption|omega) only[e10,go_sem,↓reduceIte,Nat.reduceEqDiff,reduceIte], by simp (disch:=first|assumption|omega) only[e6,go_sem,↓reduceIte,Nat.reduceEqDiff,reduceIte], by simp (disch:=first|assumption|omega) only[e7,go_sem,↓reduceIte,Nat.reduceEqDiff,reduceIte], by simp (disch:=first|assumption|omega) only[e51,go_sem,↓reduceIte,Nat.reduceEqDiff,reduceIte], by simp (disch:=first|assumption|omega) only[b9,go_sem], by simp (disch:=first|assumption|omega) only[b6,go_sem], by simp (disch:=first|assumption|omega) only[b7,go_sem]⟩, hT7.swap, ok_mono ok0 (by omega), ok_mono okq (by omega), by simp only; omega, by simp only[List.length_append]; omega, _, rfl, hG⟩
        · simp (disch:=first|assumption|omega) only[e88,e52,b10,g2,go_sem,↓reduceIte,Nat.reduceEqDiff,Nat.reduceLT,reduceIte,Int.reduceLT]
          simp only[remP,Option.some.injEq] at hA
          subst hA
          exact ⟨d, by omega, t + 1, s, by omega, hB, by simp, ⟨by simp (disch:=first|assumption|omega) only[e1,go_sem,↓reduceIte,Nat.reduceEqDiff,reduceIte], by simp (disch:=first|assumption|omega) only[e11,go_sem,↓reduceIte,Nat.reduceEqDiff,reduceIte], by simp (disch:=first|assumption|omega) only[e9,go_sem,↓reduceIte,Nat.reduceEqDiff,reduceIte], by simp (disch:=first|assumption|omega) only[e10,go_sem,↓reduceIte,Nat.reduceEqDiff,reduceIte], by simp (disch:=first|assumption|omega) only[e6,go_sem,↓reduceIte,Nat.reduceEqDiff,reduceIte], by simp (disch:=first|assumption|omega) only[e7,go_sem,↓reduceIte,Nat.reduceEqDiff,reduceIte], by simp (disch:=first|assumption|omega) only[e51,go_sem,↓reduceIte,Nat.reduceEqDiff,reduceIte], by simp (disch:=first|assumption|omega) only[b9,go_sem], by simp (disch:=first|assumption|omega) only[b6,go_sem], by simp (disch:=first|assumption|omega) only[b7,go_sem]⟩, hT, ok_mono ok0 (by omega), ok_mono ok1 (by omega), by omega, by omega, _, rfl, x0, x1, rfl, hx0, hx1⟩
    · obtain rfl : t = ticks := by omega
      obtain rfl : d = 0 := by omega
      obtain rfl : s = sF := Option.some.inj hrun
      obtain ⟨x0, x1, rfl, hx0, hx1⟩ := hG
      obtain ⟨o0, y0, rfl, hy0, ho0⟩ := hx0.cases
      obtain ⟨o1, y1, rfl, hy1, ho1⟩ := hx1.cases
      have hr0 : ∃ q0, Ge.rdc (.lst o0 y0) = .lst q0 y0 ∧ Rdo q0 := by
        rcases ho0 with ⟨rfl, _⟩ | rfl
        · exact ⟨.nil, rfl, .inr rfl⟩
        · exact ⟨.sh, rfl, .inl rfl⟩
      have hr1 : ∃ q1, Ge.rdc (.lst o1 y1) = .lst q1 y1 ∧ Rdo q1 := by
        rcases ho1 with ⟨rfl, _⟩ | rfl
        · exact ⟨.nil, rfl, .inr rfl⟩
        · exact ⟨.sh, rfl, .inl rfl⟩
      obtain ⟨q0, hr0, hq0⟩ := hr0
      obtain ⟨q1, hr1, hq1⟩ := hr1
      obtain ⟨Ms, oe, of, tr⟩ := hT
      simp (disch:=first|assumption|omega) only[e52,e9,e10,e51,b9,b10,hlt,hr0,hr1,g1,g2,go_sem,↓reduceIte,Nat.reduceEqDiff,Nat.reduceAdd,Nat.reduceLeDiff,Nat.reduceLT,reduceIte,Int.reduceLT,Int.reduceLE,Int.reduceAdd,Int.reduceMul,Nat.reduceMul]
      refine callqG_ok (Waits_ok a oe 0 1 s.e0 _ (by simp (disch:=first|assumption|omega) only[go_sem]; exact tr.erm)) (by simp (disch:=first|assumption|omega) only[go_sem]) ?_
      rintro _ _ ⟨rfl, hhh⟩
      refine ⟨hhh, ?_⟩
      rw [hhh]
      clear hhh
      simp (disch:=first|assumption|omega) only[go_sem,↓reduceIte,Nat.reduceEqDiff,reduceIte]
      refine callqG_ok (Waits_ok b of 1 0 s.e1 _ (by simp (disch:=first|assumption|omega) only[go_sem]; exact tr.ero)) (by simp (disch:=first|assumption|omega) only[go_sem]) ?_
      rintro _ _ ⟨rfl, hhh⟩
      refine ⟨hhh, ?_⟩
      rw [hhh]
      clear hhh
      have hrr0 : Ge.rdc (.lst q0 y0) = .lst q0 y0 := by rcases hq0 with rfl | rfl <;> rfl
      have hrr1 : Ge.rdc (.lst q1 y1) = .lst q1 y1 := by rcases hq1 with rfl | rfl <;> rfl
      simp (disch:=first|assumption|omega) only[e6,e7,b6,b7,fillV,go_sem,↓reduceIte,Nat.reduceEqDiff,Nat.reduceAdd,Nat.reduceLeDiff,reduceIte,Int.reduceAdd]
      subst hQ
      simp (disch:=first|assumption|omega) only[R.gantkeep5_linked,e6,e7,go_sem,↓reduceIte,Nat.reduceEqDiff,Nat.reduceAdd,reduceIte,Int.reduceAdd]
      exact ⟨q0, q1, y0, y1, hq0, hq1, hy0, hy1, rfl⟩
end Go.Proofs.Ytpdajkbfemcdlaa
namespace Go.Proofs.Ytpdajkbfemcdlaa
open Go.Ge
def phi (t last : Int) : Nat := if last < 0 then (59 - t).toNat / 4 + 1 else (59 - last).toNat / 4
def phiS (t : Int) (l : List (Msg × Int)) : Nat := (l.map fun p => phi t p.2).sum
def fut (t : Nat) : Nat := ((List.range 30).map fun s => if t ≤ s then (59 - s) / 4 + 1 else 0).sum
theorem phiS_app (t : Int) (l m : List (Msg × Int)) : phiS t (l ++ m) = phiS t l + phiS t m := by simp [phiS]
theorem phiS_drop (t : Int) (l : List (Msg × Int)) (c : Nat) : phiS t (l.drop c) ≤ phiS t l := by
  conv => rhs; rw [← List.take_append_drop c l, phiS_app]
  omega
theorem phi_mark {t : Int} (h0 : 0 ≤ t) (h1 : t ≤ 59) (p : Msg × Int) : phi t (mark t p).2 + (if due t p = true then 1 else 0) ≤ phi t p.2 := by
  unfold mark
  by_cases hd : due t p = true
  · rw [if_pos hd, if_pos hd]
    unfold due at hd
    simp only[Bool.or_eq_true,decide_eq_true_eq] at hd
    unfold phi
    simp only
    rw [if_neg (by omega)]
    split <;> omega
  · rw [if_neg hd, if_neg hd]; omega
theorem phiS_marks {t : Int} (h0 : 0 ≤ t) (h1 : t ≤ 59) : ∀ l : List (Msg × Int), phiS t (l.map (mark t)) + (l.filter (due t)).length ≤ phiS t l
  | [] => by simp [phiS]
  | p :: l => by
    have h := phiS_marks h0 h1 l
    have h2 := phi_mark h0 h1 p
    unfold phiS at h ⊢
    rw [List.map_cons, List.map_cons, List.map_cons, List.sum_cons, List.sum_cons, List.filter_cons]
    split
    · rename_i hd
      rw [if_pos hd] at h2
      rw [List.length_cons]; omega
    · rename_i hd
      rw [if_neg hd] at h2
      omega
theorem phiS_out {t c : Int} (h0 : 0 ≤ t) (h1 : t ≤ 59) (l : List (Msg × Int)) : phiS t (outW t l 8) + (outM t c l 8).length ≤ phiS t l := by
  unfold outW outM
  rw [phiS_app, List.length_map]
  have := phiS_marks h0 h1 (l.take 8)
  conv => rhs; rw [← List.take_append_drop 8 l, phiS_app]
  omega
theorem phi_later {t : Int} (p : Int) : phi (t + 1) p ≤ phi t p := by unfold phi; split <;> omega
theorem phiS_later (t : Int) : ∀ l : List (Msg × Int), phiS (t + 1) l ≤ phiS t l
  | [] => by simp [phiS]
  | p :: l => by
    have h := phiS_later t l
    have h2 := phi_later (t := t) p.2
    unfold phiS at h ⊢
    rw [List.map_cons, List.map_cons, List.sum_cons, List.sum_cons]; omega
theorem fut_step : ∀ t, t < 60 → fut t = (if t < 30 then (59 - t) / 4 + 1 else 0) + fut (t + 1) := by decide
theorem fut_zero : fut 0 = 352 := by decide
theorem outL_le (e : Lk) (i j t c : Int) : (outL e i j t c).length ≤ (outM t c e.wait 8).length + 1 := by
  unfold outL
  rw [List.length_append]
  split <;> simp
theorem takeN_len (n : NetP) (t to : Int) : (takeN n t to).2.length ≤ n.2.length := List.length_filter_le _ _
def PotO (t : Nat) (s : Sy) : Prop := s.net.2.length + 2 * (phiS t s.e0.wait + phiS t s.e1.wait) + 2 * fut t + 4 * (60 - t) ≤ 944
theorem tickO {fs : List Fault} {puts : List Int} {P0 P1 : List Msg} {t : Nat} {s : Sy} (hpl : puts.length ≤ 30) (h : SyI P0 P1 t s) (hlt : t < 60) (hl : P0.length + P1.length ≤ t) (q0 : PutT 0 puts t P0) (q1 : PutT 1 puts t P1) (hpot : PotO t s) :
    ∃ s' P0' P1', tickP fs puts t s = some s' ∧ SyI P0' P1' (t + 1 : Nat) s' ∧ P0'.length + P1'.length ≤ t + 1 ∧ PutT 0 puts (t + 1) P0' ∧ PutT 1 puts (t + 1) P1' ∧ PotO (t + 1) s' := by
  obtain ⟨s1, P0', P1', r1, hi1, hl1, q0', q1', hn1, _, _, hc⟩ := h.put hl (by omega) q0 q1
  have hf := fut_step t hlt
  have hpot1 : s1.net.2.length + 2 * (phiS t s1.e0.wait + phiS t s1.e1.wait) + 2 * fut (t + 1) + 4 * (60 - t) ≤ 944 := by
    unfold PotO at hpot
    rw [hn1]
    rcases hc with rfl | ⟨htp, ⟨m, e1, e0⟩ | ⟨m, e0, e1⟩⟩
    · omega
    · rw [if_pos (by omega)] at hf
      rw [e1, e0]
      simp only
      rw [phiS_app]
      have : phiS t [(m, -1)] = (59 - t) / 4 + 1 := by
        simp only[phiS,List.map_cons,List.map_nil,List.sum_cons,List.sum_nil]
        unfold phi
        rw [if_pos (by omega)]; omega
      omega
    · rw [if_pos (by omega)] at hf
      rw [e1, e0]
      simp only
      rw [phiS_app]
      have : phiS t [(m, -1)] = (59 - t) / 4 + 1 := by
        simp only[phiS,List.map_cons,List.map_nil,List.sum_cons,List.sum_nil]
        unfold phi
        rw [if_pos (by omega)]; omega
      omega
  have key : ∀ (e em : Lk) (i j : Int), (∃ c, c ≤ e.wait.length ∧ em.wait = e.wait.drop c) → phiS t (outS (emptied em) t).wait + (outL (emptied em) i j t t).length ≤ phiS t e.wait + 1 := by
    rintro e em i j ⟨c, _, hc⟩
    have k1 := outL_le (emptied em) i j t t
    have k2 := phiS_out (t := t) (c := t) (by omega) (by omega) (emptied em).wait
    have k3 := phiS_drop t e.wait c
    have k4 : (emptied em).wait = e.wait.drop c := hc
    have k5 : (outS (emptied em) t).wait = outW t (emptied em).wait 8 := rfl
    rw [k5]
    rw [k4] at k1 k2 ⊢
    omega
  obtain ⟨em0, d0, r2, hi2⟩ := hi1.step0 (fs := fs) (by omega) (by omega) (fun em hem => by
    have := key s1.e0 em 0 1 hem
    have := takeN_len s1.net t 0
    omega)
  have k0 := key s1.e0 em0 0 1 d0.cut
  have n0 := takeN_len s1.net t 0
  have l0 : (sendF fs t (takeN s1.net t 0) (outL (emptied em0) 0 1 t t)).2.length ≤ (takeN s1.net t 0).2.length + 2 * (outL (emptied em0) 0 1 t t).length := by
    rw [sendF_2, List.length_append]
    have := flat_len fs t (outL (emptied em0) 0 1 t t)
    omega
  generalize hs2 : ({ s1 with e0 := outS (emptied em0) t, net := sendF fs t (takeN s1.net t 0) (outL (emptied em0) 0 1 t t), g0 := s1.g0 ++ em0.got } : Sy) = s2 at r2 hi2
  have a1 : s2.e0 = outS (emptied em0) t := by rw [← hs2]
  have a2 : s2.e1 = s1.e1 := by rw [← hs2]
  have a3 : s2.net = sendF fs t (takeN s1.net t 0) (outL (emptied em0) 0 1 t t) := by rw [← hs2]
  rw [← a1] at k0
  rw [← a3] at l0
  obtain ⟨em1, d1, r3, hi3⟩ := hi2.step1 (fs := fs) (by omega) (by omega) (fun em hem => by
    have := key s2.e1 em 1 0 hem
    have := takeN_len s2.net t 1
    rw [a2] at *
    omega)
  have k1 := key s2.e1 em1 1 0 d1.cut
  have n1 := takeN_len s2.net t 1
  have l1 : (sendF fs t (takeN s2.net t 1) (outL (emptied em1) 1 0 t t)).2.length ≤ (takeN s2.net t 1).2.length + 2 * (outL (emptied em1) 1 0 t t).length := by
    rw [sendF_2, List.length_append]
    have := flat_len fs t (outL (emptied em1) 1 0 t t)
    omega
  refine ⟨_, P0', P1', by unfold tickP; rw [r1, Option.bind_some, r2, Option.bind_some, r3], hi3.later (by omega), hl1, q0', q1', ?_⟩
  unfold PotO
  simp only
  have m0 := phiS_later t s2.e0.wait
  have m1 := phiS_later t (outS (emptied em1) t).wait
  rw [a2] at k1
  have e1 : ((t + 1 : Nat) : Int) = (t : Int) + 1 := by omega
  rw [e1]
  omega
theorem runO {fs : List Fault} {puts : List Int} (hpl : puts.length ≤ 30) (d : Nat) : ∀ (t : Nat) (P0 P1 : List Msg) (s : Sy), t + d = 60 → SyI P0 P1 (t : Nat) s → P0.length + P1.length ≤ t → PutT 0 puts t P0 → PutT 1 puts t P1 → PotO t s →
    ∃ s' P0' P1', runP fs puts d t s = some s' ∧ SyI P0' P1' (60 : Nat) s' ∧ PutT 0 puts 60 P0' ∧ PutT 1 puts 60 P1' := by
  induction d with
  | zero =>
    intro t P0 P1 s hd h hl q0 q1 hp
    have ht : t = 60 := by omega
    rw [ht] at h q0 q1
    exact ⟨s, P0, P1, by unfold runP; rfl, h, q0, q1⟩
  | succ d ih =>
    intro t P0 P1 s hd h hl q0 q1 hp
    obtain ⟨s', P0', P1', r, h1, h2, h3, h4, h5⟩ := tickO (fs := fs) hpl h (by omega) hl q0 q1 hp
    obtain ⟨s2, P02, P12, r2, k⟩ := ih (t + 1) P0' P1' s' (by omega) h1 h2 h3 h4 h5
    exact ⟨s2, P02, P12, by unfold runP; rw [r, Option.bind_some, r2], k⟩
theorem begins_of {i : Int} {puts : List Int} {T : Nat} {P Q : List Msg} {e : Lk} {g : List Msg} (hT : puts.length ≤ T) (hp : PutT i puts T Q) (h : EndI P Q e g) : beginsP i g puts 0 = true := by
  obtain ⟨_, _, w, _, hw, hg⟩ := h
  unfold PutT at hp
  rw [List.drop_of_length_le (by omega), show putQ i [] T = [] from rfl, List.append_nil] at hp
  have h1 : (g ++ e.got).map kc = (Q.take w).map kc := by
    rw [← hg, List.map_map]; rfl
  refine begins_ok i puts g 0 (e.got.map kc ++ (Q.drop w).map kc) ?_
  rw [hp, ← List.append_assoc, ← List.map_append, h1, ← List.map_append, List.take_append_drop]
theorem LinkOrder_plain (fs : List Fault) (puts : List Int) (hpl : puts.length ≤ 30) : ∃ s, linkP fs puts 60 = some s ∧ beginsP 0 s.g1 puts 0 = true ∧ beginsP 1 s.g0 puts 0 = true ∧ s.g0.length ≤ 300 ∧ s.g1.length ≤ 300 := by
  obtain ⟨s, P0, P1, r, h, q0, q1⟩ := runO (fs := fs) hpl 60 0 [] [] sy0 rfl (SyI.init) (by simp) (by simp [PutT]) (by simp [PutT]) (by unfold PotO; simp [sy0, lk0, phiS, fut_zero])
  have l0 : s.g0.length ≤ P1.length := by
    obtain ⟨_, _, w, _, hw, hg⟩ := h.e0
    have := congrArg List.length hg
    simp only[List.length_map,List.length_append,List.length_take] at this
    omega
  have l1 : s.g1.length ≤ P0.length := by
    obtain ⟨_, _, w, _, hw, hg⟩ := h.e1
    have := congrArg List.length hg
    simp only[List.length_map,List.length_append,List.length_take] at this
    omega
  have := h.l0
  exact ⟨s, r, begins_of (by omega) q0 h.e1, begins_of (by omega) q1 h.e0, by omega, by omega⟩
theorem link_first : ∃ s, linkP [] [0] 6 = some s ∧ s.g1.length = 1 ∧ s.g0 = [] ∧ s.e0.wait = [] ∧ s.e1.wait = [] := by
  have : (linkP [] [0] 6).map (fun s => (s.g1.length, s.g0.length, s.e0.wait.length, s.e1.wait.length)) = some (1, 0, 0, 0) := by decide +kernel
  cases h : linkP [] [0] 6 with
  | none => rw [h] at this; cases this
  | some s =>
    rw [h] at this
    simp only[Option.map_some,Option.some.injEq,Prod.mk.injEq] at this
    exact ⟨s, rfl, this.1, List.eq_nil_of_length_eq_zero this.2.1, List.eq_nil_of_length_eq_zero this.2.2.1, List.eq_nil_of_length_eq_zero this.2.2.2⟩
end Go.Proofs.Ytpdajkbfemcdlaa
namespace Go.Proofs.Ytpdajkbfemcdlaa
open Go.Ge
theorem begins_cons (i : Int) (m : Msg) (l : List Msg) (p : Int) (ps : List Int) (t : Nat) : beginsP i (m :: l) (p :: ps) t = if p % 2 ≠ i then beginsP i (m :: l) ps (t + 1) else if m.Kind = pKind p ∧ m.Cells = pCells p t then beginsP i l ps (t + 1) else false := by
  rw [beginsP]
set_option maxHeartbeats 2000000 in
theorem begins_walk (q0 q : Own) (l : List Msg) (xs : List AVal) (puts : List Int) (i : Int) (hq0 : Rdo q0) (hq : Rdo q) (hx : MsgsOk l xs) (hp : ∀ c ∈ puts, inI64 c) (hpl : puts.length ≤ 1000) (hl : l.length ≤ 1000) (h : List HObj) :
    ACalls Try.prog F.gantkeep5_begins [.lst q0 xs, .lst q (ints .i64 puts), .int .i64 i] h (fun v h' => v = .bool (beginsP i l puts 0) ∧ h' = h) := by
  have hpm : (ints .i64 puts).length = puts.length := List.length_map _
  refine ACalls.of_aw Try.func92 K.gantkeep5_begins (by simp [Try.f92]) ?_
  generalize hQ : retQ R.gantkeep5_begins _ = Q
  simp (disch:=first|assumption|omega) only[C.gantkeep5_begins,go_sem,↓reduceIte,Nat.reduceEqDiff,reduceIte]
  refine aw_count (fun d S => ∃ (t : Nat) (l' : List Msg) (q' : Own) (xs' : List AVal), t + d = puts.length ∧ beginsP i l puts 0 = beginsP i l' (puts.drop t) t ∧ S.env 12 = .int .i64 t ∧ S.env 11 = .int .i64 puts.length ∧ S.env 10 = .lst q (ints .i64 puts) ∧ S.env 2 = .int .i64 i ∧ S.env 0 = .lst q' xs' ∧ Rdo q' ∧ MsgsOk l' xs' ∧ l'.length ≤ 1000 ∧ S.heap = h) (n := puts.length)
    ⟨0, l, q0, xs, by omega, rfl, by simp (disch:=first|assumption|omega) only[go_sem,↓reduceIte,reduceIte], by simp (disch:=first|assumption|omega) only[go_sem,↓reduceIte,Nat.reduceEqDiff,reduceIte], by simp (disch:=first|assumption|omega) only[go_sem,↓reduceIte,Nat.reduceEqDiff,reduceIte], by simp (disch:=first|assumption|omega) only[go_sem,↓reduceIte,Nat.reduceEqDiff,reduceIte], by simp (disch:=first|assumption|omega) only[go_sem,↓reduceIte,reduceCtorEq,reduceIte], hq0, hx, hl, by simp (disch:=first|assumption|omega) only[go_sem]⟩ ?_
  rintro d S ⟨t, l', q', xs', htd, hb, e12, e11, e10, e2, e0, hq', hx', hl', eh⟩
  have hxl := hx'.length
  by_cases hlt : (t : Int) < puts.length
  · have ht1 : t < puts.length := by omega
    have hat := at_putI ht1
    have hpx := hp _ (List.getElem_mem ht1)
    rw [List.drop_eq_getElem_cons ht1] at hb
    generalize puts[t] = p at *
    have hw1 : IntKind.i64.wrap (p.tdiv 2) = p.tdiv 2 := by have := tdivI hpx 2 (by omega); unfold inI64 at this; exact wrapI64 (by simpa using this.1) (by have := this.2; simp at this; omega)
    have hw2 : IntKind.i64.wrap (p.tdiv 6) = p.tdiv 6 := by have := tdivI hpx 6 (by omega); unfold inI64 at this; exact wrapI64 (by simpa using this.1) (by have := this.2; simp at this; omega)
    cases l' with
    | nil =>
      simp only[MsgsOk] at hx'
      subst hx'
      simp (disch:=first|assumption|omega) only[e12,e11,e10,e0,hlt,hat,hpm,go_sem,↓reduceIte,Nat.reduceEqDiff,reduceCtorEq,Nat.reduceLeDiff,Nat.reduceLT,reduceIte,Int.reduceLT]
      subst hQ
      simp (disch:=first|assumption|omega) only[R.gantkeep5_begins,eh,go_sem,↓reduceIte,reduceIte]
      rw [hb]; rfl
    | cons m l' =>
      obtain ⟨x, ys, rfl, ⟨om, hom, homl, rfl⟩, hys⟩ := hx'
      have hom1 := hom.1
      have hml : m.Cells.length < 4611686018427387904 := by unfold reachBytes at homl; omega
      have hxl2 : ((msgA om m :: ys).length : Int) ≠ 0 := by simp; omega
      have hyl := hys.length
      simp only[List.length_cons] at hl'
      simp (disch:=first|assumption|omega) only[e12,e11,e10,e0,hlt,hat,hpm,go_sem,↓reduceIte,Nat.reduceEqDiff,reduceCtorEq,Nat.reduceLeDiff,Nat.reduceLT,reduceIte,Int.reduceLT]
      have hxl3 : ¬(((ys.length + 1 : Nat) : Int) = 0) := by omega
      have g2 : ((2 : Nat) : Int) = 2 := rfl
      rw [begins_cons] at hb
      simp (disch:=first|assumption|omega) only[hxl3,go_sem,↓reduceIte,Nat.reduceEqDiff,reduceIte]
      refine callG_ok (Below_ok p 2 hpx (by omega) (by omega) _) (by simp (disch:=first|assumption|omega) only[go_sem]) ?_
      rintro _ _ ⟨rfl, hhh⟩
      rw [hhh]
      clear hhh
      by_cases hi : p % 2 = i
      · rw [if_neg (by simpa using hi)] at hb
        have hat0 : at_ (msgA om m :: ys) 0 = msgA om m := rfl
        have hlz : (0 : Int) < ((ys.length + 1 : Nat) : Int) := by omega
        simp only[msgA,msgC] at hat0
        have g1 : Int.toNat 1 = 1 := rfl
        have d1 : ∀ X : AVal, List.drop 1 (X :: ys) = ys := fun _ => rfl
        have c2 : (pCells p t).length < 4611686018427387904 := by simp [pCells]
        simp (disch:=first|assumption|omega) only[e2,e0,hi,hat0,msgA,msgC,fillV,hlz,g1,d1,Nat.add_sub_cancel,List.take_length,hw1,go_sem,↓reduceIte,Nat.reduceEqDiff,reduceCtorEq,Nat.reduceAdd,Nat.reduceLeDiff,reduceIte,Int.reduceLE,Int.reduceAdd,Int.reduceNe]
        refine ⟨⟨by omega, Nat.le_refl _, hys.width⟩, ?_⟩
        refine callG_ok (Below_ok (p.tdiv 2) 3 (by simpa using tdivI hpx 2 (by omega)) (by omega) (by omega) _) (by simp (disch:=first|assumption|omega) only[go_sem]) ?_
        rintro _ _ ⟨rfl, hhh⟩
        rw [hhh]
        clear hhh
        by_cases hk : m.Kind = p.tdiv 2 % 3
        · simp (disch:=first|assumption|omega) only[hk,hw2,go_sem,↓reduceIte,Nat.reduceEqDiff,reduceCtorEq,Nat.reduceAdd,Nat.reduceLeDiff,Nat.reduceLT,reduceIte,Int.reduceLT,Int.reduceAdd,Int.reduceNe]
          refine callG_ok (Below_ok (p.tdiv 6) 9 (by simpa using tdivI hpx 6 (by omega)) (by omega) (by omega) _) (by simp (disch:=first|assumption|omega) only[go_sem]) ?_
          rintro _ _ ⟨rfl, hhh⟩
          rw [hhh]
          clear hhh
          simp (disch:=first|assumption|omega) only[fillV,go_sem,↓reduceIte,Nat.reduceEqDiff,Nat.reduceAdd,Nat.reduceLeDiff,reduceIte,Int.reduceAdd,Int.reduceMul,Nat.reduceMul]
          refine callG_ok (EqualCell_ok om .sh m.Cells (pCells p t) hom1 (.inl rfl) hml c2 _) (by simp (disch:=first|assumption|omega) only[cellsA,go_sem]) ?_
          rintro _ _ ⟨rfl, hhh⟩
          rw [hhh]
          clear hhh
          by_cases hc : m.Cells = pCells p t
          · rw [if_pos ⟨hk, hc⟩] at hb
            simp (disch:=first|assumption|omega) only[e12,e11,e10,e2,eh,hc,go_sem,↓reduceIte,Nat.reduceEqDiff,reduceCtorEq,reduceIte]
            exact ⟨d - 1, by omega, t + 1, l', .sh, ys, by omega, hb, by simp, rfl, .inl rfl, hys, by omega⟩
          · rw [if_neg (fun h => hc h.2)] at hb
            simp (disch:=first|assumption|omega) only[hc,go_sem,↓reduceIte,Nat.reduceEqDiff,reduceIte]
            subst hQ
            simp (disch:=first|assumption|omega) only[R.gantkeep5_begins,eh,go_sem,↓reduceIte,reduceIte]
            rw [hb]
        · rw [if_neg (fun h => hk h.1)] at hb
          simp (disch:=first|assumption|omega) only[hk,go_sem,↓reduceIte,Nat.reduceEqDiff,reduceIte]
          subst hQ
          simp (disch:=first|assumption|omega) only[R.gantkeep5_begins,eh,go_sem,↓reduceIte,reduceIte]
          rw [hb]
      · rw [if_pos hi] at hb
        simp (disch:=first|assumption|omega) only[e12,e11,e10,e2,e0,eh,hi,go_sem,↓reduceIte,Nat.reduceEqDiff,reduceCtorEq,reduceIte]
        exact ⟨d - 1, by omega, t + 1, m :: l', q', _, by omega, hb, by simp, rfl, hq', ⟨_, ys, rfl, ⟨om, hom, homl, rfl⟩, hys⟩, by simp; omega⟩
  · obtain rfl : t = puts.length := by omega
    rw [List.drop_length] at hb
    simp (disch:=first|assumption|omega) only[e12,e11,e0,hlt,go_sem,↓reduceIte,reduceCtorEq,reduceIte]
    subst hQ
    simp (disch:=first|assumption|omega) only[R.gantkeep5_begins,eh,go_sem,↓reduceIte,reduceIte]
    rw [hb]
    unfold beginsP
    cases l' <;> simp [hxl] <;> omega
theorem linked_first (h : List HObj) : ACalls Try.prog F.gantkeep5_linked [.lst .nil [], .lst .sh [.int .i64 0], .int .i64 6] h (fun v _ => ∃ q0 q1 xs0 xs1, Rdo q0 ∧ Rdo q1 ∧ xs1.length = 1 ∧ v = .tup [.agg [.lst q0 xs0, .lst q1 xs1], .agg [.int .i64 0, .int .i64 0], .bool true]) := by
  obtain ⟨s, hs, g1, g0, w0, w1⟩ := link_first
  refine ACalls.mono (linked_ok .nil .sh [] [0] 6 s ⟨.inr rfl, fun _ => rfl⟩ (by simp) (.inl rfl) (by intro c hc; simp at hc; subst hc; unfold inI64; omega) (by simp) (by omega) hs h) ?_
  rintro v h' ⟨q0, q1, xs0, xs1, h1, h2, h3, h4, rfl⟩
  exact ⟨q0, q1, xs0, xs1, h1, h2, by rw [h4.length, g1], by rw [w0, w1]; rfl⟩
set_option maxHeartbeats 2000000 in
theorem LinkOrder_law (o q : Own) (fs : List Fault) (puts : List Int) (ho : Rdn o fs) (hfl : fs.length ≤ 5864062014805) (hq : Rdo q) (hp : ∀ c ∈ puts, inI64 c) (hpl : puts.length ≤ 17592186044416) :
    ACalls Try.prog F.gantkeep5_LinkOrder [.lst o (faultsA fs), .lst q (ints .i64 puts)] [] (fun r _ => r = .bool true) := by
  have ho1 := ho.1
  have hpm : (ints .i64 puts).length = puts.length := List.length_map _
  have g1 : Int.toNat 1 = 1 := rfl
  have g2 : ((2 : Nat) : Int) = 2 := rfl
  refine ACalls.of_aw Try.func21 K.gantkeep5_LinkOrder (by simp [Try.f21]) ?_
  generalize hQ : retQ R.gantkeep5_LinkOrder _ = Q
  simp (disch:=first|assumption|omega) only[C.gantkeep5_LinkOrder,go_sem,↓reduceIte,Nat.reduceLeDiff,reduceIte,Int.reduceMul,Nat.reduceMul]
  refine callG_ok (linked_first _) (by simp (disch:=first|assumption|omega) only[go_sem]) ?_
  rintro _ h1 ⟨q0, q1, xs0, xs1, hq0, hq1, hx1, rfl⟩
  have hr0 : Ge.rdc (.lst q0 xs0) = .lst q0 xs0 := by rcases hq0 with rfl | rfl <;> rfl
  have hr1 : Ge.rdc (.lst q1 xs1) = .lst q1 xs1 := by rcases hq1 with rfl | rfl <;> rfl
  have hv1 : rdv (.lst q1 xs1) = .lst q1 xs1 := by rcases hq1 with rfl | rfl <;> rfl
  have c11 : ((1 : Nat) : Int) = 1 := rfl
  obtain ⟨n, hn⟩ : ∃ n, n = min puts.length 30 := ⟨_, rfl⟩
  have hmin : (if (30 : Int) < puts.length then (30 : Int) else puts.length) = (n : Int) := by split <;> omega
  have htk : List.take n (ints .i64 puts) = ints .i64 (puts.take n) := by unfold ints; rw [List.map_take]
  simp (disch:=first|assumption|omega) only[fillV,hr1,hv1,hx1,g1,g2,c11,hpm,hmin,List.drop_zero,Nat.sub_zero,htk,go_sem,↓reduceIte,Nat.reduceEqDiff,reduceCtorEq,Nat.reduceAdd,Nat.reduceLeDiff,Nat.reduceLT,reduceIte,Int.reduceLT,Int.reduceLE,Int.reduceAdd,Int.reduceMul,Nat.reduceMul]
  refine ⟨⟨by omega, fun x hx => by obtain ⟨c, _, rfl⟩ := List.mem_map.1 hx; rfl⟩, ?_⟩
  obtain ⟨s, hs, hb0, hb1, hl0, hl1⟩ := LinkOrder_plain fs (puts.take n) (by rw [List.length_take]; omega)
  have hptk : ∀ c ∈ puts.take n, inI64 c := fun c hc => hp c (List.mem_of_mem_take hc)
  have hltk : (puts.take n).length ≤ 1000 := by rw [List.length_take]; omega
  refine callG_ok (linked_ok o .sh fs (puts.take n) 60 s ho hfl (.inl rfl) hptk hltk (by omega) hs _) (by simp (disch:=first|assumption|omega) only[go_sem]) ?_
  rintro _ h2 ⟨r0, r1, ys0, ys1, hr0, hr1, hy0, hy1, rfl⟩
  have a0 : Ge.rdc (.lst r0 ys0) = .lst r0 ys0 := by rcases hr0 with rfl | rfl <;> rfl
  have a1 : Ge.rdc (.lst r1 ys1) = .lst r1 ys1 := by rcases hr1 with rfl | rfl <;> rfl
  have b0 : rdv (.lst r0 ys0) = .lst r0 ys0 := by rcases hr0 with rfl | rfl <;> rfl
  have b1 : rdv (.lst r1 ys1) = .lst r1 ys1 := by rcases hr1 with rfl | rfl <;> rfl
  simp (disch:=first|assumption|omega) only[fillV,a1,b1,g1,g2,go_sem,↓reduceIte,Nat.reduceEqDiff,Nat.reduceAdd,Nat.reduceLeDiff,Nat.reduceLT,reduceIte,Int.reduceLT,Int.reduceLE,Int.reduceAdd,Int.reduceMul,Nat.reduceMul]
  refine callG_ok (begins_walk r1 .sh s.g1 ys1 (puts.take n) 0 hr1 (.inl rfl) hy1 hptk hltk (by omega) _) (by simp (disch:=first|assumption|omega) only[go_sem]) ?_
  rintro _ _ ⟨rfl, hhh⟩
  rw [hhh, hb0]
  clear hhh
  simp (disch:=first|assumption|omega) only[a0,b0,g2,go_sem,↓reduceIte,Nat.reduceEqDiff,Nat.reduceAdd,Nat.reduceLeDiff,Nat.reduceLT,reduceIte,Int.reduceLT,Int.reduceLE,Int.reduceAdd]
  refine callG_ok (begins_walk r0 .sh s.g0 ys0 (puts.take n) 1 hr0 (.inl rfl) hy0 hptk hltk (by omega) _) (by simp (disch:=first|assumption|omega) only[go_sem]) ?_
  rintro _ _ ⟨rfl, hhh⟩
  rw [hhh, hb1]
  clear hhh
  simp (disch:=first|assumption|omega) only[go_sem,↓reduceIte,Nat.reduceEqDiff,reduceIte]
  subst hQ
  simp (disch:=first|assumption|omega) only[R.gantkeep5_LinkOrder,go_sem,↓reduceIte,reduceIte]
end Go.Proofs.Ytpdajkbfemcdlaa
