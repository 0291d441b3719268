/- Targets: the program's target of a record, walked. -/
import Derived.Test.YtmiihhbgfijcmaaGreatZo
namespace Go.Proofs.YtmiihhbgfijcmaaGreat.K
open Go Go.RowKit
set_option linter.unusedVariables false
set_option linter.unusedSimpArgs false
set_option maxRecDepth 20000
theorem C43q : CF Tryz.prog 43 := ⟨_, Tryz.func43, rfl, rfl⟩
def z5 : List Value := [.string ⟨#[]⟩, .string ⟨#[]⟩, .string ⟨#[]⟩, .slice none 0 0, .slice none 0 0]
theorem z5_one : ∀ v ∈ z5, v.oneCell' = true := z5one
def ownS (s : Value) (l : List ByteArray) : Ch := .own s 9 1 l.length (rowS l)
def PTgI (F : Fz) (w0 : World) (r : Option Tg) (e : Ending) (w : World) : Prop :=
  ∃ cs b, e = .returned (.tuple #[.agg (cs : List Value).toArray, .bool b]) ∧ (∀ v ∈ cs, v.oneCell' = true) ∧ cs.length = 5 ∧ (match r with
    | none => b = false ∧ Ext F w0 F w
    | some g => b = true ∧ ∃ si so, cs = tgc g si so ∧ Hp w0 F F [ownS si g.ins, ownS so g.outs] w)
theorem PTgI.no {F : Fz} {w0 w : World} {r : Option Tg} {cs : List Value} (hE : Ext F w0 F w) (h1 : ∀ v ∈ cs, v.oneCell' = true) (hl : cs.length = 5) (h : r = none) : PTgI F w0 r (.returned (.tuple #[.agg cs.toArray, .bool false])) w := ⟨cs, false, rfl, h1, hl, by rw [h]; exact ⟨rfl, hE⟩⟩
theorem PTgI.yes {F : Fz} {w0 w : World} {r : Option Tg} {g : Tg} {si so : Value} (h1 : ∀ v ∈ tgc g si so, v.oneCell' = true) (hp : Hp w0 F F [ownS si g.ins, ownS so g.outs] w) (h : r = some g) : PTgI F w0 r (.returned (.tuple #[.agg (tgc g si so).toArray, .bool true])) w := ⟨_, true, rfl, h1, rfl, by rw [h]; exact ⟨rfl, si, so, rfl, hp⟩⟩
theorem tgA_no {t : T} (h : t.atom.k ≠ 6) : tgA t = none := by rw [tgA, if_pos h]
theorem Arg.y112 {F : Fz} {t : T} {a : Value} (h : Arg F t a) (e : t.atom.k = 6) : ∃ x y D, a = .iface 92 (.agg #[x, y]) ∧ RD F t x y D := h.v112.elim (fun h => h.2) (fun h => absurd e h.1)
theorem Arg.n112 {F : Fz} {t : T} {a : Value} (h : Arg F t a) (e : t.atom.k ≠ 6) : NT 92 a := h.v112.elim (fun h => absurd h.1 e) (fun h => h.2)
theorem entry_arg {F : Fz} {t : T} {x y : Value} {D : AL En} (hvt : Vt t) (hn : ∀ k ∈ t.kids, inR k.atom.n) (hD : RD F t x y D) {p : ByteArray × En} (hp : p ∈ D) : Arg F p.2.1 p.2.2.2 := by
  have hm : p.2.1 ∈ t.kids := by
    rw [hD.kids]
    exact List.mem_flatMap.2 ⟨(p.1, p.2.1), List.mem_map.2 ⟨p, hp, rfl⟩, by simp⟩
  obtain ⟨e1, e2, e3, e4⟩ := hD.each p hp
  exact ⟨⟨e3, enc_le_mem hm hvt.kids_len, ⟨_, e2⟩, hn _ hm⟩, _, e2, e4⟩
theorem tx4_eq {e : T} (k : e.atom.k = 4) : tx4 e = e.atom.t := by rw [tx4, if_pos k]
section
variable {n : ByteArray} {e : T} {s : Tg}
theorem good_name (c : n = kName) (k : e.atom.k = 4) (ke : tx4 e ≠ ⟨#[]⟩) : true = true ↔ goodE n e := ⟨fun _ => .inl ⟨c, k, by rwa [tx4_eq k] at ke⟩, fun _ => rfl⟩
theorem set_name (c : n = kName) (k : e.atom.k = 4) : true = true → ({ s with name := tx4 e } : Tg) = setE s n e := fun _ => by rw [setE, if_pos c, tx4_eq k]
theorem bad_name (c : n = kName) (h : ¬ (e.atom.k = 4 ∧ tx4 e ≠ ⟨#[]⟩)) : false = true ↔ goodE n e := ⟨fun h => by (cases h), fun hg => by
  obtain ⟨k1, k2, k3, k4, k5, k6, k7, k8, k9, k10⟩ := kne
  subst c
  rcases hg with hg | hg | hg | hg | hg
  · exact absurd ⟨hg.2.1, by rw [tx4_eq hg.2.1]; exact hg.2.2⟩ h
  · exact absurd hg.1.symm k1
  · exact absurd hg.1.symm k2
  · exact absurd hg.1.symm k3
  · exact absurd hg.1.symm k4⟩
theorem good_tool (c : n = kTool) (k : e.atom.k = 4) (ke : tx4 e ≠ ⟨#[]⟩) : true = true ↔ goodE n e := ⟨fun _ => .inr (.inl ⟨c, k, by rwa [tx4_eq k] at ke⟩), fun _ => rfl⟩
theorem set_tool (c : n = kTool) (k : e.atom.k = 4) : true = true → ({ s with tool := tx4 e } : Tg) = setE s n e := fun _ => by rw [setE, if_neg (by rw [c]; exact kne.1), if_pos c, tx4_eq k]
theorem bad_tool (c : n = kTool) (h : ¬ (e.atom.k = 4 ∧ tx4 e ≠ ⟨#[]⟩)) : false = true ↔ goodE n e := ⟨fun h => by (cases h), fun hg => by
  obtain ⟨k1, k2, k3, k4, k5, k6, k7, k8, k9, k10⟩ := kne
  subst c
  rcases hg with hg | hg | hg | hg | hg
  · exact absurd hg.1 k1
  · exact absurd ⟨hg.2.1, by rw [tx4_eq hg.2.1]; exact hg.2.2⟩ h
  · exact absurd hg.1.symm k5
  · exact absurd hg.1.symm k6
  · exact absurd hg.1.symm k7⟩
theorem good_arg (c : n = kArg) (k : e.atom.k = 4) : true = true ↔ goodE n e := ⟨fun _ => .inr (.inr (.inl ⟨c, k⟩)), fun _ => rfl⟩
theorem set_arg (c : n = kArg) (k : e.atom.k = 4) : true = true → ({ s with arg := tx4 e } : Tg) = setE s n e := fun _ => by rw [setE, if_neg (by rw [c]; exact kne.2.1), if_neg (by rw [c]; exact kne.2.2.2.2.1), if_pos c, tx4_eq k]
theorem bad_arg (c : n = kArg) (h : ¬ e.atom.k = 4) : false = true ↔ goodE n e := ⟨fun h => by (cases h), fun hg => by
  obtain ⟨k1, k2, k3, k4, k5, k6, k7, k8, k9, k10⟩ := kne
  subst c
  rcases hg with hg | hg | hg | hg | hg
  · exact absurd hg.1 k2
  · exact absurd hg.1 k5
  · exact absurd hg.2 h
  · exact absurd hg.1.symm k8
  · exact absurd hg.1.symm k9⟩
theorem textsA_some {l : List ByteArray} (h : textsA e = some l) : e.atom.k = 5 ∧ (∀ k ∈ e.kids, k.atom.k = 4) ∧ l = txs e := by
  rw [textsA] at h
  split at h
  · rename_i hc
    cases h
    refine ⟨hc.1, fun k hk => ?_, rfl⟩
    obtain ⟨i, hi⟩ := List.mem_iff_getElem?.1 hk
    exact hc.2 i k hi
  · cases h
theorem textsA_txs (h5 : e.atom.k = 5) (h : ∀ k ∈ e.kids, k.atom.k = 4 ∧ k.atom.t ≠ ⟨#[]⟩) : textsA e = some (txs e) ∧ ⟨#[]⟩ ∉ txs e := by
  refine ⟨textsA_ok h5 fun i x hx => (h x (List.mem_of_getElem? hx)).1, fun hm => ?_⟩
  obtain ⟨k, hk, he⟩ := List.mem_map.1 hm
  exact (h k hk).2 he
theorem all_good {l : List ByteArray} (h : textsA e = some l) (hne : ⟨#[]⟩ ∉ l) : e.atom.k = 5 ∧ ∀ k ∈ e.kids, k.atom.k = 4 ∧ k.atom.t ≠ ⟨#[]⟩ := by
  obtain ⟨h5, h4, rfl⟩ := textsA_some h
  exact ⟨h5, fun k hk => ⟨h4 k hk, fun he => hne (List.mem_map.2 ⟨k, hk, he⟩)⟩⟩
theorem good_ins {l : List ByteArray} (c : n = kIns) (h : textsA e = some l) (hne : ⟨#[]⟩ ∉ l) : true = true ↔ goodE n e := ⟨fun _ => by
  obtain ⟨h5, h4⟩ := all_good h hne
  exact .inr (.inr (.inr (.inl ⟨c, h5, h4⟩))), fun _ => rfl⟩
theorem set_ins {l : List ByteArray} (c : n = kIns) (h : textsA e = some l) : true = true → ({ s with ins := l } : Tg) = setE s n e := fun _ => by
  obtain ⟨h5, h4, rfl⟩ := textsA_some h
  rw [setE, if_neg (by rw [c]; exact kne.2.2.1), if_neg (by rw [c]; exact kne.2.2.2.2.2.1), if_neg (by rw [c]; exact kne.2.2.2.2.2.2.2.1), if_pos c]
theorem bad_ins (c : n = kIns) (h : ∀ l, textsA e = some l → ¬ ⟨#[]⟩ ∉ l) : false = true ↔ goodE n e := ⟨fun h => by (cases h), fun hg => by
  obtain ⟨k1, k2, k3, k4, k5, k6, k7, k8, k9, k10⟩ := kne
  subst c
  rcases hg with hg | hg | hg | hg | hg
  · exact absurd hg.1 k3
  · exact absurd hg.1 k6
  · exact absurd hg.1 k8
  · obtain ⟨h1, h2⟩ := textsA_txs hg.2.1 hg.2.2
    exact absurd h2 (h _ h1)
  · exact absurd hg.1.symm k10⟩
theorem good_outs {l : List ByteArray} (c : n = kOuts) (h : textsA e = some l) (hne : ⟨#[]⟩ ∉ l) (hl : l ≠ []) : true = true ↔ goodE n e := ⟨fun _ => by
  obtain ⟨h5, h4⟩ := all_good h hne
  have := (textsA_some h).2.2
  exact .inr (.inr (.inr (.inr ⟨c, h5, fun hk => hl (by rw [this, txs, hk]; rfl), h4⟩))), fun _ => rfl⟩
theorem set_outs {l : List ByteArray} (c : n = kOuts) (h : textsA e = some l) : true = true → ({ s with outs := l } : Tg) = setE s n e := fun _ => by
  obtain ⟨h5, h4, rfl⟩ := textsA_some h
  obtain ⟨k1, k2, k3, k4, k5, k6, k7, k8, k9, k10⟩ := kne
  rw [setE, if_neg (by rw [c]; exact k4), if_neg (by rw [c]; exact k7), if_neg (by rw [c]; exact k9), if_neg (by rw [c]; exact k10)]
theorem bad_outs (c : n = kOuts) (h : ∀ l, textsA e = some l → ¬ (⟨#[]⟩ ∉ l ∧ l ≠ [])) : false = true ↔ goodE n e := ⟨fun h => by (cases h), fun hg => by
  obtain ⟨k1, k2, k3, k4, k5, k6, k7, k8, k9, k10⟩ := kne
  subst c
  rcases hg with hg | hg | hg | hg | hg
  · exact absurd hg.1 k4
  · exact absurd hg.1 k7
  · exact absurd hg.1 k9
  · exact absurd hg.1 k10
  · obtain ⟨h1, h2⟩ := textsA_txs hg.2.1 hg.2.2.2
    exact absurd ⟨h2, fun e0 => hg.2.2.1 (by simpa [txs] using e0)⟩ (h _ h1)⟩
theorem bad_key (c0 : n ≠ kName) (c1 : n ≠ kTool) (c2 : n ≠ kArg) (c3 : n ≠ kIns) (c4 : n ≠ kOuts) : false = true ↔ goodE n e := ⟨fun h => by (cases h), fun hg => by
  rcases goodE_key hg with h | h | h | h | h
  · exact absurd h c0
  · exact absurd h c1
  · exact absurd h c2
  · exact absurd h c3
  · exact absurd h c4⟩
end
theorem target_no (F : Fz) (w0 : World) (hF : Sub F (hv w0)) {t : T} {a : Value} (ha : Arg F t a) (h6 : t.atom.k ≠ 6) : Calls Tryz.prog 21 #[a] w0 (PTgI F w0 (tgA t)) := by
  refine calls 118 Tryz.func21 rfl rfl rfl ?_
  have h := Hp.start hF
  refine W.seq (W.region rfl ?_)
  refine WL.alloc h T49z (fun b2 w h => ?_)
  refine WL.p h Val.as ?_
  refine WL.nil ?_
  refine W.seq (W.region rfl ?_)
  refine WL.alloc h T49z (fun b4 w h => ?_)
  refine WL.nil ?_
  refine W.seq (W.region rfl ?_)
  refine WL.p h Val.mv ?_
  refine WL.p h (Val.taF N112 T112 rfl (ha.n112 h6)) ?_
  refine WL.p h Val.mv ?_
  refine WL.p h (Val.ext rfl rfl) ?_
  refine WL.p h (Val.ext rfl rfl) ?_
  refine WL.alloc h T112 (fun b5 w h => ?_)
  refine WL.stS 2 h rfl T112 rfl (vs := [.slice none 0 0, .slice none 0 0]) rfl (by simp [Value.oneCell']) rfl rfl (fun w h => ?_)
  refine WL.p h Val.as ?_
  refine WL.nil ?_
  refine W.seq (W.seq (W.region rfl ?_))
  refine WL.p h Val.mv ?_
  refine WL.p h (Val.not rfl) ?_
  refine WL.nil ?_
  refine W.condT rfl ?_
  refine W.seq (W.region rfl ?_)
  refine WL.p h (Val.ldS 1 A49z T49z rfl rfl rfl) ?_
  refine WL.stS 0 h rfl T49z rfl (vs := z5) rfl z5_one rfl rfl (fun w h => ?_)
  refine WL.p h Val.as ?_
  refine WL.nil ?_
  refine W.ret ?_
  exact finBox2 (v := .bool false) h 0 rfl rfl rfl A49z T49z rfl rfl (PTgI.no h.toExt z5_one rfl (tgA_no h6))
def tL (b2 b4 b5 bm : Nat) (x y : Value) (ks : List ByteArray) (s : Tg) (si so : Value) : List Ch :=
  [.box b2 z5 49, .box b4 (tgc s si so) 49, .box b5 [x, y] 92, .obj bm (mobj (boolL ks)), ownS si s.ins, ownS so s.outs]
def tI (w0 : World) (F : Fz) (b2 b4 b5 bm : Nat) (x y : Value) (D : AL En) (j : Nat) (R : Regs) (w : World) : Prop :=
  ∃ si so, Hp w0 F F (tL b2 b4 b5 bm x y ((D.take j).map (·.1)) (foldE tg0 (trees (D.take j))) si so) w ∧ (∀ p ∈ trees (D.take j), goodE p.1 p.2) ∧ R 2 = pt b2 ∧ R 4 = pt b4 ∧ R 5 = pt b5 ∧ R 7 = .map (some bm) ∧ R 23 = x ∧ R 24 = .int .i64 (D.length : Int) ∧ R 25 = .int .i64 (j : Int)
def tJ (w0 : World) (F : Fz) (b2 b4 b5 bm : Nat) (x y : Value) (ks : List ByteArray) (s : Tg) (n : ByteArray) (e : T) (len j : Nat) (R : Regs) (w : World) : Prop :=
  ∃ (s' : Tg) (si so : Value) (b : Bool), Hp w0 F F (tL b2 b4 b5 bm x y ks s' si so) w ∧ (b = true ↔ goodE n e) ∧ (b = true → s' = setE s n e) ∧ R 2 = pt b2 ∧ R 4 = pt b4 ∧ R 5 = pt b5 ∧ R 7 = .map (some bm) ∧ R 23 = x ∧ R 24 = .int .i64 (len : Int) ∧ R 25 = .int .i64 (j : Int) ∧ R 11 = .bool b
def tS (w0 : World) (F : Fz) (b2 : Nat) (rest : List Ch) (w : World) : Prop := ∃ x : { l : List Value // l.length = 5 }, Hp w0 F F (.box b2 x.1 49 :: rest) w
theorem tgc_one {s : Tg} {si so : Value} (h1 : si.oneCell' = true) (h2 : so.oneCell' = true) : ∀ v ∈ tgc s si so, v.oneCell' = true := five_one h1 h2
theorem keys_trees (D : AL En) : keysM (trees D) = D.map (·.1) := by simp [keysM, trees, Function.comp_def]
theorem take_map_succ {α β : Type} {l : List α} {j : Nat} {a : α} (f : α → β) (h : l[j]? = some a) : (l.take (j + 1)).map f = (l.take j).map f ++ [f a] := by
  obtain ⟨l1, e1⟩ := List.getElem?_eq_some_iff.1 h
  rw [List.take_succ_eq_append_getElem l1, e1]; simp
set_option maxHeartbeats 8000000 in
theorem target_rec (F : Fz) (w0 : World) (hF : Sub F (hv w0)) {t : T} {a x y : Value} {D : AL En} (ha : Arg F t a) (h6 : t.atom.k = 6) (hnum : ∀ k ∈ t.kids, inR k.atom.n) (hav : a = .iface 92 (.agg #[x, y])) (hD : RD F t x y D) : Calls Tryz.prog 21 #[a] w0 (PTgI F w0 (tgA t)) := by
  have hkn : (D.map (·.1)).Nodup := by
    have := sorted_keys hD.sorted
    exact this
  have hfold := tgA_fold h6 hD.kids (by rw [keys_trees]; exact hkn)
  have hDl := hD.len
  have hxy : ∀ v ∈ [x, y], v.oneCell' = true := by
    intro v hv
    simp only [List.mem_cons, List.not_mem_nil, or_false] at hv
    rcases hv with rfl | rfl
    · exact hD.rowX.one
    · exact hD.rowY.one
  refine calls 118 Tryz.func21 rfl rfl rfl ?_
  have h := Hp.start hF
  refine W.seq (W.region rfl ?_)
  refine WL.alloc h T49z (fun b2 w h => ?_)
  refine WL.p h Val.as ?_
  refine WL.nil ?_
  refine W.seq (W.region rfl ?_)
  refine WL.alloc h T49z (fun b4 w h => ?_)
  refine WL.nil ?_
  refine W.seq (W.region rfl ?_)
  refine WL.p h Val.mv ?_
  refine WL.p h (Val.taY N112 hav) ?_
  refine WL.p h Val.mv ?_
  refine WL.p h (Val.ext rfl rfl) ?_
  refine WL.p h (Val.ext rfl rfl) ?_
  refine WL.alloc h T112 (fun b5 w h => ?_)
  refine WL.stS 2 h rfl T112 rfl (vs := [x, y]) rfl hxy rfl rfl (fun w h => ?_)
  refine WL.p h Val.as ?_
  refine WL.nil ?_
  refine W.seq (W.seq (W.region rfl ?_))
  refine WL.p h Val.mv ?_
  refine WL.p h (Val.not rfl) ?_
  refine WL.nil ?_
  refine W.condF rfl ?_
  refine W.skip ?_
  refine W.seq (W.region rfl ?_)
  refine WL.makeMap h (fun bm w h => ?_)
  refine WL.p h Val.as ?_
  refine WL.nil ?_
  have h := (h.nilRow 9 1).nilRow 9 1
  refine W.seq (W.seq (W.region rfl ?_))
  refine WL.p h (Val.fa O112_0 rfl) ?_
  refine WL.p h (Val.ld 2 A24 rfl rfl rfl) ?_
  refine WL.p h (Val.len Tryz.underlying41 rfl hD.rowX.val) ?_
  refine WL.p h Val.mv ?_
  refine WL.nil ?_
  refine W.block ?_
  refine W.loop (fun m R w => ∃ j, m + j = D.length ∧ tI w0 F b2 b4 b5 bm x y D j R w) D.length ⟨0, by omega, _, _, h, by simp [trees], rfl, rfl, rfl, rfl, rfl, rfl, rfl⟩ (fun m R w hI => ?_)
  clear h
  obtain ⟨j, hm, si, so, h, hgood, h2, h4, h5, h7, h23, h24, h25⟩ := hI
  refine W.seq (W.region rfl ?_)
  refine WL.p h (Val.lt h25 h24) ?_
  refine WL.dec (fun c => ?_) (fun c => ?_)
  · obtain ⟨⟨n, e, it, av⟩, hp⟩ : ∃ p, D[j]? = some p := ⟨_, List.getElem?_eq_getElem (by omega)⟩
    have hpm := List.mem_of_getElem? hp
    have hA : Arg F e av := entry_arg ha.vt hnum hD hpm
    have hns : n.size ≤ 1000 := (hD.each _ hpm).1
    have hkt : ∀ x ∈ (D.take j).map (·.1), x.size ≤ 9223372036854775807 := fun x hx => by
      obtain ⟨p, hp, rfl⟩ := List.mem_map.1 hx
      have := (hD.each p (List.mem_of_mem_take hp)).1
      omega
    have hknt : ((D.take j).map (·.1)).Nodup := by rw [List.map_take]; exact hkn.sublist (List.take_sublist _ _)
    have hks : (D.take (j + 1)).map (·.1) = (D.take j).map (·.1) ++ [n] := take_map_succ (·.1) hp
    have hnn : n ∉ (D.take j).map (·.1) := by
      have h1 : ((D.take (j + 1)).map (·.1)).Nodup := by rw [List.map_take]; exact hkn.sublist (List.take_sublist _ _)
      rw [hks] at h1
      intro hm
      exact (List.nodup_append.1 h1).2.2 n hm n (by simp) rfl
    have hst : trees (D.take (j + 1)) = trees (D.take j) ++ [(n, e)] := take_map_succ (fun p : ByteArray × En => (p.1, p.2.1)) hp
    have hx1 : (D.map fun p => Value.string p.1)[j * 1]? = some (.string n) := by rw [Nat.mul_one, List.getElem?_map, hp]; rfl
    have hy1 : (D.map fun p => p.2.2.2)[j * 1]? = some av := by rw [Nat.mul_one, List.getElem?_map, hp]; rfl
    obtain ⟨s, hs⟩ : ∃ s, foldE tg0 (trees (D.take j)) = s := ⟨_, rfl⟩
    rw [hs] at h
    refine WL.nil ?_
    refine W.seq ?_
    refine W.condT rfl ?_
    refine W.skip ?_
    refine W.seq (W.block ?_)
    refine W.seq (W.region rfl ?_)
    refine WL.p h Val.mv ?_
    refine WL.p h (Val.ix (i := j) Tryz.underlying41 T9 h23 h25 (hD.rowX.slice (by omega)) (by omega)) ?_
    refine WL.p h (Val.ldR A9 hD.rowX rfl hx1) ?_
    refine WL.p h Val.as ?_
    refine WL.p h Val.as ?_
    refine WL.nil ?_
    refine W.seq (W.region rfl ?_)
    refine WL.p h Val.mv ?_
    refine WL.p h Val.mv ?_
    refine WL.mapUp (k := n) (v := .bool true) 3 h rfl Tryz.underlying56 Tryz.underlying9 (boolL_B hkt) (boolL_N hknt) h7 rfl rfl (by omega) (fun w h => ?_)
    have h : Hp w0 F F (tL b2 b4 b5 bm x y ((D.take (j + 1)).map (·.1)) s si so) w := h.cast (by rw [updM_bool hnn, ← hks]; rfl)
    refine WL.nil ?_
    refine W.seq (W.region rfl ?_)
    refine WL.p h (Val.fa O112_1 h5) ?_
    refine WL.p h (Val.ld 2 A109 rfl rfl rfl) ?_
    refine WL.p h Val.mv ?_
    refine WL.p h (Val.ix (i := j) Tryz.underlying89 T71 rfl h25 (hD.rowY.slice (by omega)) (by omega)) ?_
    refine WL.p h (Val.ldR A71 hD.rowY rfl hy1) ?_
    refine WL.p h Val.as ?_
    refine WL.nil ?_
    refine W.seq (W.region rfl ?_)
    refine WL.p h Val.as ?_
    refine WL.nil ?_
    refine W.cut (tJ w0 F b2 b4 b5 bm x y ((D.take (j + 1)).map (·.1)) s n e D.length j) ?_ ?_
    · refine W.seq (W.region rfl ?_)
      refine WL.p h Val.mv ?_
      refine WL.nil ?_
      refine W.block ?_
      refine W.seq (W.region rfl ?_)
      refine WL.p h (Val.sEq (a := n) (b := kName) rfl rfl) ?_
      refine WL.dec (fun c0 => ?_) (fun c0 => ?_)
      · refine WL.p h Val.as ?_
        refine WL.nil ?_
        refine W.condT rfl ?_
        refine W.seq (W.region rfl ?_)
        refine WL.p h Val.mv ?_
        refine WL.p h (Val.ta9 hA rfl) ?_
        refine WL.p h Val.mv ?_
        refine WL.p h (Val.ext rfl rfl) ?_
        refine WL.p h (Val.ext rfl rfl) ?_
        refine WL.dec (fun k4 => ?_) (fun k4 => ?_)
        · refine WL.p h (Val.fa O49_0z h4) ?_
          refine WL.st 1 (v := .string (tx4 e)) h rfl T9 rfl rfl rfl rfl (fun w h => ?_)
          refine WL.p h Val.as ?_
          refine WL.nil ?_
          refine W.region rfl ?_
          refine WL.p h Val.mv ?_
          refine WL.p h Val.mv ?_
          refine WL.p h (Val.fa O49_0z h4) ?_
          refine WL.p h (Val.ld 1 A9 rfl rfl rfl) ?_
          refine WL.p h (Val.sNe (a := tx4 e) (b := ⟨#[]⟩) rfl rfl) ?_
          refine WL.dec (fun ke => ?_) (fun ke => ?_)
          · refine WL.p h (Val.pick rfl) ?_
            refine WL.p h Val.as ?_
            refine WL.nil ?_
            exact ⟨{ s with name := tx4 e }, si, so, true, h, good_name c0 k4 ke, set_name c0 k4, h2, h4, h5, h7, h23, h24, h25, rfl⟩
          · refine WL.p h (Val.pick rfl) ?_
            refine WL.p h Val.as ?_
            refine WL.nil ?_
            exact ⟨{ s with name := tx4 e }, si, so, false, h, bad_name c0 (fun h => ke h.2), (fun h => by cases h), h2, h4, h5, h7, h23, h24, h25, rfl⟩
        · refine WL.p h (Val.fa O49_0z h4) ?_
          refine WL.st 1 (v := .string (tx4 e)) h rfl T9 rfl rfl rfl rfl (fun w h => ?_)
          refine WL.p h Val.as ?_
          refine WL.nil ?_
          refine W.region rfl ?_
          refine WL.p h Val.mv ?_
          refine WL.p h Val.mv ?_
          refine WL.no rfl (WL.no rfl (WL.no rfl (?_)))
          refine WL.p h (Val.pick rfl) ?_
          refine WL.p h Val.as ?_
          refine WL.nil ?_
          exact ⟨{ s with name := tx4 e }, si, so, false, h, bad_name c0 (fun h => k4 h.1), (fun h => by cases h), h2, h4, h5, h7, h23, h24, h25, rfl⟩
      refine WL.p h Val.as ?_
      refine WL.nil ?_
      refine W.condF rfl ?_
      refine W.seq (W.region rfl ?_)
      refine WL.p h (Val.sEq (a := n) (b := kTool) rfl rfl) ?_
      refine WL.dec (fun c1 => ?_) (fun c1 => ?_)
      · refine WL.p h Val.as ?_
        refine WL.nil ?_
        refine W.condT rfl ?_
        refine W.seq (W.region rfl ?_)
        refine WL.p h Val.mv ?_
        refine WL.p h (Val.ta9 hA rfl) ?_
        refine WL.p h Val.mv ?_
        refine WL.p h (Val.ext rfl rfl) ?_
        refine WL.p h (Val.ext rfl rfl) ?_
        refine WL.dec (fun k4 => ?_) (fun k4 => ?_)
        · refine WL.p h (Val.fa O49_1z h4) ?_
          refine WL.st 1 (v := .string (tx4 e)) h rfl T9 rfl rfl rfl rfl (fun w h => ?_)
          refine WL.p h Val.as ?_
          refine WL.nil ?_
          refine W.region rfl ?_
          refine WL.p h Val.mv ?_
          refine WL.p h Val.mv ?_
          refine WL.p h (Val.fa O49_1z h4) ?_
          refine WL.p h (Val.ld 1 A9 rfl rfl rfl) ?_
          refine WL.p h (Val.sNe (a := tx4 e) (b := ⟨#[]⟩) rfl rfl) ?_
          refine WL.dec (fun ke => ?_) (fun ke => ?_)
          · refine WL.p h (Val.pick rfl) ?_
            refine WL.p h Val.as ?_
            refine WL.nil ?_
            exact ⟨{ s with tool := tx4 e }, si, so, true, h, good_tool c1 k4 ke, set_tool c1 k4, h2, h4, h5, h7, h23, h24, h25, rfl⟩
          · refine WL.p h (Val.pick rfl) ?_
            refine WL.p h Val.as ?_
            refine WL.nil ?_
            exact ⟨{ s with tool := tx4 e }, si, so, false, h, bad_tool c1 (fun h => ke h.2), (fun h => by cases h), h2, h4, h5, h7, h23, h24, h25, rfl⟩
        · refine WL.p h (Val.fa O49_1z h4) ?_
          refine WL.st 1 (v := .string (tx4 e)) h rfl T9 rfl rfl rfl rfl (fun w h => ?_)
          refine WL.p h Val.as ?_
          refine WL.nil ?_
          refine W.region rfl ?_
          refine WL.p h Val.mv ?_
          refine WL.p h Val.mv ?_
          refine WL.no rfl (WL.no rfl (WL.no rfl (?_)))
          refine WL.p h (Val.pick rfl) ?_
          refine WL.p h Val.as ?_
          refine WL.nil ?_
          exact ⟨{ s with tool := tx4 e }, si, so, false, h, bad_tool c1 (fun h => k4 h.1), (fun h => by cases h), h2, h4, h5, h7, h23, h24, h25, rfl⟩
      refine WL.p h Val.as ?_
      refine WL.nil ?_
      refine W.condF rfl ?_
      refine W.seq (W.region rfl ?_)
      refine WL.p h (Val.sEq (a := n) (b := kArg) rfl rfl) ?_
      refine WL.dec (fun c2 => ?_) (fun c2 => ?_)
      · refine WL.p h Val.as ?_
        refine WL.nil ?_
        refine W.condT rfl ?_
        refine W.region rfl ?_
        refine WL.p h Val.mv ?_
        refine WL.p h (Val.ta9 hA rfl) ?_
        refine WL.p h Val.mv ?_
        refine WL.p h (Val.ext rfl rfl) ?_
        refine WL.p h (Val.ext rfl rfl) ?_
        refine WL.dec (fun k4 => ?_) (fun k4 => ?_)
        · refine WL.p h (Val.fa O49_2z h4) ?_
          refine WL.st 1 (v := .string (tx4 e)) h rfl T9 rfl rfl rfl rfl (fun w h => ?_)
          refine WL.p h Val.as ?_
          refine WL.nil ?_
          exact ⟨{ s with arg := tx4 e }, si, so, true, h, good_arg c2 k4, set_arg c2 k4, h2, h4, h5, h7, h23, h24, h25, rfl⟩
        · refine WL.p h (Val.fa O49_2z h4) ?_
          refine WL.st 1 (v := .string (tx4 e)) h rfl T9 rfl rfl rfl rfl (fun w h => ?_)
          refine WL.p h Val.as ?_
          refine WL.nil ?_
          exact ⟨{ s with arg := tx4 e }, si, so, false, h, bad_arg c2 k4, (fun h => by cases h), h2, h4, h5, h7, h23, h24, h25, rfl⟩
      refine WL.p h Val.as ?_
      refine WL.nil ?_
      refine W.condF rfl ?_
      refine W.seq (W.seq (W.region rfl ?_))
      refine WL.p h (Val.sEq (a := n) (b := kIns) rfl rfl) ?_
      refine WL.dec (fun c3 => ?_) (fun c3 => ?_)
      · refine WL.p h Val.as ?_
        refine WL.nil ?_
        refine W.condT rfl ?_
        refine W.skip ?_
        refine W.condT rfl ?_
        refine W.seq (W.region rfl ?_)
        refine WL.p h Val.as ?_
        refine WL.nil ?_
        obtain ⟨ol, ho⟩ : ∃ o, textsA e = o := ⟨_, rfl⟩
        have hT := texts_calls F w h.sub hA
        rw [ho] at hT
        cases ol with
        | none =>
          refine W.seq (W.region rfl ?_)
          refine WL.p h Val.mv ?_
          refine WL.call C43q (args := [av]) rfl (hT.mono ?_)
          rintro e' w' ⟨s1, rfl, hp⟩
          have h := h.take1 hp
          have hs1 := h.own1 6 rfl
          refine ⟨_, rfl, ?_⟩
          refine WL.p h Val.mv ?_
          refine WL.p h (Val.ext (v := s1) rfl rfl) ?_
          refine WL.p h (Val.ext (v := .bool false) rfl rfl) ?_
          refine WL.p h Val.as ?_
          refine WL.p h Val.as ?_
          refine WL.nil ?_
          refine W.seq (W.region rfl ?_)
          refine WL.p h Val.mv ?_
          refine WL.p h Val.mv ?_
          refine WL.no rfl (WL.no rfl (WL.no rfl (?_)))
          refine WL.p h (Val.pick rfl) ?_
          refine WL.p h Val.mv ?_
          refine WL.no rfl (WL.no rfl (WL.no rfl (WL.no rfl (WL.no rfl (WL.no rfl (WL.no rfl (?_)))))))
          refine WL.p h (Val.pick rfl) ?_
          refine WL.p h Val.as ?_
          refine WL.nil ?_
          refine W.seq (W.region rfl ?_)
          refine WL.p h Val.mv ?_
          refine WL.p h (Val.sEq (a := n) (b := kIns) rfl rfl) ?_
          refine WL.dec (fun cI => ?_) (fun cI => absurd c3 cI)
          refine WL.nil ?_
          refine W.condT rfl ?_
          refine W.region rfl ?_
          refine WL.p h Val.mv ?_
          refine WL.p h (Val.fa O49_3z h4) ?_
          refine WL.st 1 (v := s1) h rfl T24 rfl rfl hs1 rfl (fun w h => ?_)
          refine WL.nil ?_
          exact ⟨{ s with ins := [] }, s1, so, false, h.put4, bad_ins c3 (fun l hl => by rw [ho] at hl; cases hl), (fun h => by cases h), h2, h4, h5, h7, h23, h24, h25, rfl⟩
        | some l =>
          refine W.seq (W.region rfl ?_)
          refine WL.p h Val.mv ?_
          refine WL.call C43q (args := [av]) rfl (hT.mono ?_)
          rintro e' w' ⟨s1, rfl, hp⟩
          have h := h.take1 hp
          have hs1 := h.own1 6 rfl
          refine ⟨_, rfl, ?_⟩
          refine WL.p h Val.mv ?_
          refine WL.p h (Val.ext (v := s1) rfl rfl) ?_
          refine WL.p h (Val.ext (v := .bool true) rfl rfl) ?_
          refine WL.p h Val.as ?_
          refine WL.p h Val.as ?_
          refine WL.nil ?_
          refine W.seq (W.region rfl ?_)
          refine WL.p h Val.mv ?_
          refine WL.p h Val.mv ?_
          refine WL.p h Val.mv ?_
          refine WL.call C44q (args := [s1, .string ⟨#[]⟩]) rfl ((contains_calls (hv _) _ (Sub.refl _) s1 l (h.row 6 rfl) ⟨#[]⟩).mono ?_)
          rintro e' w' ⟨rfl, hE⟩
          have h := h.below_step hE.below
          refine ⟨_, rfl, ?_⟩
          refine WL.decB (fun ce => ?_) (fun ce => ?_)
          · refine WL.p h (Val.not rfl) ?_
            refine WL.p h (Val.pick rfl) ?_
            refine WL.p h Val.mv ?_
            refine WL.no rfl (WL.no rfl (WL.no rfl (WL.no rfl (WL.no rfl (WL.no rfl (WL.no rfl (?_)))))))
            refine WL.p h (Val.pick rfl) ?_
            refine WL.p h Val.as ?_
            refine WL.nil ?_
            refine W.seq (W.region rfl ?_)
            refine WL.p h Val.mv ?_
            refine WL.p h (Val.sEq (a := n) (b := kIns) rfl rfl) ?_
            refine WL.dec (fun cI => ?_) (fun cI => absurd c3 cI)
            refine WL.nil ?_
            refine W.condT rfl ?_
            refine W.region rfl ?_
            refine WL.p h Val.mv ?_
            refine WL.p h (Val.fa O49_3z h4) ?_
            refine WL.st 1 (v := s1) h rfl T24 rfl rfl hs1 rfl (fun w h => ?_)
            refine WL.nil ?_
            exact ⟨{ s with ins := l }, s1, so, false, h.put4, bad_ins c3 (fun l' hl => by rw [ho] at hl; cases hl; exact fun h => h (hasB_iff.1 ce)), (fun h => by cases h), h2, h4, h5, h7, h23, h24, h25, rfl⟩
          · have hne : ⟨#[]⟩ ∉ l := fun hm => by rw [hasB_yes hm] at ce; cases ce
            refine WL.p h (Val.not rfl) ?_
            refine WL.p h (Val.pick rfl) ?_
            refine WL.p h Val.mv ?_
            refine WL.p h Val.mv ?_
            refine WL.p h (Val.sEq (a := n) (b := kIns) rfl rfl) ?_
            refine WL.dec (fun cJ => ?_) (fun cJ => absurd c3 cJ)
            refine WL.p h Val.mv ?_
            refine WL.no rfl (WL.no rfl (WL.no rfl (?_)))
            refine WL.p h (Val.pick rfl) ?_
            refine WL.p h (Val.pick rfl) ?_
            refine WL.p h Val.as ?_
            refine WL.nil ?_
            refine W.seq (W.region rfl ?_)
            refine WL.p h Val.mv ?_
            refine WL.p h (Val.sEq (a := n) (b := kIns) rfl rfl) ?_
            refine WL.dec (fun cI => ?_) (fun cI => absurd c3 cI)
            refine WL.nil ?_
            refine W.condT rfl ?_
            refine W.region rfl ?_
            refine WL.p h Val.mv ?_
            refine WL.p h (Val.fa O49_3z h4) ?_
            refine WL.st 1 (v := s1) h rfl T24 rfl rfl hs1 rfl (fun w h => ?_)
            refine WL.nil ?_
            exact ⟨{ s with ins := l }, s1, so, true, h.put4, good_ins c3 ho hne, set_ins c3 ho, h2, h4, h5, h7, h23, h24, h25, rfl⟩
      refine WL.p h Val.as ?_
      refine WL.nil ?_
      refine W.condF rfl ?_
      refine W.region rfl ?_
      refine WL.p h (Val.sEq (a := n) (b := kOuts) rfl rfl) ?_
      refine WL.dec (fun c4 => ?_) (fun c4 => ?_)
      · refine WL.p h Val.as ?_
        refine WL.nil ?_
        refine W.condT rfl ?_
        refine W.seq (W.region rfl ?_)
        refine WL.p h Val.as ?_
        refine WL.nil ?_
        obtain ⟨ol, ho⟩ : ∃ o, textsA e = o := ⟨_, rfl⟩
        have hT := texts_calls F w h.sub hA
        rw [ho] at hT
        cases ol with
        | none =>
          refine W.seq (W.region rfl ?_)
          refine WL.p h Val.mv ?_
          refine WL.call C43q (args := [av]) rfl (hT.mono ?_)
          rintro e' w' ⟨s1, rfl, hp⟩
          have h := h.take1 hp
          have hs1 := h.own1 6 rfl
          refine ⟨_, rfl, ?_⟩
          refine WL.p h Val.mv ?_
          refine WL.p h (Val.ext (v := s1) rfl rfl) ?_
          refine WL.p h (Val.ext (v := .bool false) rfl rfl) ?_
          refine WL.p h Val.as ?_
          refine WL.p h Val.as ?_
          refine WL.nil ?_
          refine W.seq (W.region rfl ?_)
          refine WL.p h Val.mv ?_
          refine WL.p h Val.mv ?_
          refine WL.no rfl (WL.no rfl (WL.no rfl (?_)))
          refine WL.p h (Val.pick rfl) ?_
          refine WL.p h Val.mv ?_
          refine WL.no rfl (WL.no rfl (WL.no rfl (WL.no rfl (WL.no rfl (WL.no rfl (WL.no rfl (?_)))))))
          refine WL.p h (Val.pick rfl) ?_
          refine WL.p h Val.as ?_
          refine WL.nil ?_
          refine W.seq (W.region rfl ?_)
          refine WL.p h Val.mv ?_
          refine WL.p h (Val.sEq (a := n) (b := kIns) rfl rfl) ?_
          refine WL.dec (fun cI => absurd cI c3) (fun cI => ?_)
          refine WL.nil ?_
          refine W.condF rfl ?_
          refine W.region rfl ?_
          refine WL.p h Val.mv ?_
          refine WL.p h (Val.fa O49_4z h4) ?_
          refine WL.st 1 (v := s1) h rfl T24 rfl rfl hs1 rfl (fun w h => ?_)
          refine WL.nil ?_
          exact ⟨{ s with outs := [] }, si, s1, false, h.put5, bad_outs c4 (fun l hl => by rw [ho] at hl; cases hl), (fun h => by cases h), h2, h4, h5, h7, h23, h24, h25, rfl⟩
        | some l =>
          refine W.seq (W.region rfl ?_)
          refine WL.p h Val.mv ?_
          refine WL.call C43q (args := [av]) rfl (hT.mono ?_)
          rintro e' w' ⟨s1, rfl, hp⟩
          have h := h.take1 hp
          have hs1 := h.own1 6 rfl
          refine ⟨_, rfl, ?_⟩
          refine WL.p h Val.mv ?_
          refine WL.p h (Val.ext (v := s1) rfl rfl) ?_
          refine WL.p h (Val.ext (v := .bool true) rfl rfl) ?_
          refine WL.p h Val.as ?_
          refine WL.p h Val.as ?_
          refine WL.nil ?_
          refine W.seq (W.region rfl ?_)
          refine WL.p h Val.mv ?_
          refine WL.p h Val.mv ?_
          refine WL.p h Val.mv ?_
          refine WL.call C44q (args := [s1, .string ⟨#[]⟩]) rfl ((contains_calls (hv _) _ (Sub.refl _) s1 l (h.row 6 rfl) ⟨#[]⟩).mono ?_)
          rintro e' w' ⟨rfl, hE⟩
          have h := h.below_step hE.below
          refine ⟨_, rfl, ?_⟩
          refine WL.decB (fun ce => ?_) (fun ce => ?_)
          · refine WL.p h (Val.not rfl) ?_
            refine WL.p h (Val.pick rfl) ?_
            refine WL.p h Val.mv ?_
            refine WL.no rfl (WL.no rfl (WL.no rfl (WL.no rfl (WL.no rfl (WL.no rfl (WL.no rfl (?_)))))))
            refine WL.p h (Val.pick rfl) ?_
            refine WL.p h Val.as ?_
            refine WL.nil ?_
            refine W.seq (W.region rfl ?_)
            refine WL.p h Val.mv ?_
            refine WL.p h (Val.sEq (a := n) (b := kIns) rfl rfl) ?_
            refine WL.dec (fun cI => absurd cI c3) (fun cI => ?_)
            refine WL.nil ?_
            refine W.condF rfl ?_
            refine W.region rfl ?_
            refine WL.p h Val.mv ?_
            refine WL.p h (Val.fa O49_4z h4) ?_
            refine WL.st 1 (v := s1) h rfl T24 rfl rfl hs1 rfl (fun w h => ?_)
            refine WL.nil ?_
            exact ⟨{ s with outs := l }, si, s1, false, h.put5, bad_outs c4 (fun l' hl => by rw [ho] at hl; cases hl; exact fun h => h.1 (hasB_iff.1 ce)), (fun h => by cases h), h2, h4, h5, h7, h23, h24, h25, rfl⟩
          · have hne : ⟨#[]⟩ ∉ l := fun hm => by rw [hasB_yes hm] at ce; cases ce
            refine WL.p h (Val.not rfl) ?_
            refine WL.p h (Val.pick rfl) ?_
            refine WL.p h Val.mv ?_
            refine WL.p h Val.mv ?_
            refine WL.p h (Val.sEq (a := n) (b := kIns) rfl rfl) ?_
            refine WL.dec (fun cJ => absurd cJ c3) (fun cJ => ?_)
            refine WL.p h Val.mv ?_
            refine WL.p h Val.mv ?_
            refine WL.p h (Val.len Tryz.underlying41 rfl (h.row 6 rfl).val) ?_
            refine WL.p h (Val.gt (a := (l.length : Int)) (b := 0) rfl rfl) ?_
            refine WL.dec (fun cl => ?_) (fun cl => ?_)
            · refine WL.p h (Val.pick rfl) ?_
              refine WL.p h (Val.pick rfl) ?_
              refine WL.p h Val.as ?_
              refine WL.nil ?_
              refine W.seq (W.region rfl ?_)
              refine WL.p h Val.mv ?_
              refine WL.p h (Val.sEq (a := n) (b := kIns) rfl rfl) ?_
              refine WL.dec (fun cI => absurd cI c3) (fun cI => ?_)
              refine WL.nil ?_
              refine W.condF rfl ?_
              refine W.region rfl ?_
              refine WL.p h Val.mv ?_
              refine WL.p h (Val.fa O49_4z h4) ?_
              refine WL.st 1 (v := s1) h rfl T24 rfl rfl hs1 rfl (fun w h => ?_)
              refine WL.nil ?_
              exact ⟨{ s with outs := l }, si, s1, true, h.put5, good_outs c4 ho hne (fun e => by subst e; simp at cl), set_outs c4 ho, h2, h4, h5, h7, h23, h24, h25, rfl⟩
            · refine WL.p h (Val.pick rfl) ?_
              refine WL.p h (Val.pick rfl) ?_
              refine WL.p h Val.as ?_
              refine WL.nil ?_
              refine W.seq (W.region rfl ?_)
              refine WL.p h Val.mv ?_
              refine WL.p h (Val.sEq (a := n) (b := kIns) rfl rfl) ?_
              refine WL.dec (fun cI => absurd cI c3) (fun cI => ?_)
              refine WL.nil ?_
              refine W.condF rfl ?_
              refine W.region rfl ?_
              refine WL.p h Val.mv ?_
              refine WL.p h (Val.fa O49_4z h4) ?_
              refine WL.st 1 (v := s1) h rfl T24 rfl rfl hs1 rfl (fun w h => ?_)
              refine WL.nil ?_
              exact ⟨{ s with outs := l }, si, s1, false, h.put5, bad_outs c4 (fun l' hl => by rw [ho] at hl; cases hl; exact fun h => h.2 (List.eq_nil_of_length_eq_zero (by omega))), (fun h => by cases h), h2, h4, h5, h7, h23, h24, h25, rfl⟩
      refine WL.p h Val.as ?_
      refine WL.nil ?_
      refine W.condF rfl ?_
      refine W.skip ?_
      exact ⟨s, si, so, false, h, bad_key c0 c1 c2 c3 c4, (fun h => by cases h), h2, h4, h5, h7, h23, h24, h25, rfl⟩
    clear h h2 h4 h5 h7 h23 h24 h25 hA
    rintro R w ⟨s', si, so, b, h, hb, hs', h2, h4, h5, h7, h23, h24, h25, h11⟩
    refine W.seq (W.region rfl ?_)
    refine WL.p h Val.mv ?_
    refine WL.p h (Val.not h11) ?_
    cases b with
    | false =>
      have hno : tgA t = none := by
        rw [hfold, if_neg]
        rintro ⟨hg, _⟩
        have := hg (n, e) (List.mem_map.2 ⟨(n, e, it, av), hpm, rfl⟩)
        have := hb.2 this
        cases this
      have hone := tgc_one (s := s') (h.own1 4 rfl) (h.own1 5 rfl)
      refine WL.nil ?_
      refine W.condT rfl ?_
      refine W.seq (W.region rfl ?_)
      refine WL.p h (Val.ldS 1 A49z T49z rfl h4 rfl) ?_
      refine WL.stS 0 h rfl T49z h2 (vs := tgc s' si so) rfl hone rfl rfl (fun w h => ?_)
      refine WL.p h Val.as ?_
      refine WL.nil ?_
      refine W.ret ?_
      exact finBox2 (v := .bool false) h 0 rfl h2 rfl A49z T49z rfl rfl (PTgI.no h.toExt hone rfl hno)
    | true =>
      have hs2 : s' = foldE tg0 (trees (D.take (j + 1))) := by rw [hs' rfl, hst, foldE_snoc, hs]
      have hg2 : ∀ p ∈ trees (D.take (j + 1)), goodE p.1 p.2 := by
        rw [hst]
        intro p hp
        rcases List.mem_append.1 hp with hp | hp
        · exact hgood p hp
        · simp only [List.mem_singleton] at hp; subst hp; exact hb.1 rfl
      refine WL.nil ?_
      refine W.condF rfl ?_
      refine W.skip ?_
      refine W.region rfl ?_
      refine WL.p h (Val.addi (c := ((j + 1 : Nat) : Int)) h25 rfl (by omega)) ?_
      refine WL.p h Val.mv ?_
      refine WL.nil ?_
      exact ⟨m - 1, by omega, j + 1, by omega, si, so, hs2 ▸ h, hg2, h2, h4, h5, h7, h23, h24, rfl⟩
  · have hj : D.length ≤ j := by omega
    rw [List.take_of_length_le hj] at h hgood
    obtain ⟨s, hs⟩ : ∃ s, foldE tg0 (trees D) = s := ⟨_, rfl⟩
    have hkt : ∀ x ∈ D.map (·.1), x.size ≤ 9223372036854775807 := fun x hx => by
      obtain ⟨p, hp, rfl⟩ := List.mem_map.1 hx
      have := (hD.each p hp).1
      omega
    have hfin : tgA t = if hasB (D.map (·.1)) kName && hasB (D.map (·.1)) kTool && hasB (D.map (·.1)) kOuts then some s else none := by
      rw [hfold, keys_trees, hs]
      by_cases hc : (∀ p ∈ trees D, goodE p.1 p.2) ∧ kName ∈ D.map (·.1) ∧ kTool ∈ D.map (·.1) ∧ kOuts ∈ D.map (·.1)
      · rw [if_pos hc, hasB_yes hc.2.1, hasB_yes hc.2.2.1, hasB_yes hc.2.2.2]; rfl
      · rw [if_neg hc]
        have : ¬ (hasB (D.map (·.1)) kName && hasB (D.map (·.1)) kTool && hasB (D.map (·.1)) kOuts) = true := by
          simp only [Bool.and_eq_true, hasB_iff]
          rintro ⟨⟨e1, e2⟩, e3⟩
          exact hc ⟨hgood, e1, e2, e3⟩
        rw [if_neg this]
    rw [hs] at h
    have hone := tgc_one (s := s) (h.own1 4 rfl) (h.own1 5 rfl)
    obtain ⟨kB, hkB⟩ : ∃ f, hasB (D.map (·.1)) = f := ⟨_, rfl⟩
    rw [hkB] at hfin
    refine WL.nil ?_
    refine W.seq ?_
    refine W.condF rfl ?_
    refine W.exit ?_
    refine W.seq (W.draw (tS w0 F b2 [.box b4 (tgc s si so) 49, .box b5 [x, y] 92, .obj bm (mobj (boolL (D.map (·.1)))), ownS si s.ins, ownS so s.outs]) [] 13 (by kernel_rfl) rfl rfl ?_)
    have hS : tS w0 F b2 [.box b4 (tgc s si so) 49, .box b5 [x, y] 92, .obj bm (mobj (boolL (D.map (·.1)))), ownS si s.ins, ownS so s.outs] _ := ⟨⟨z5, rfl⟩, h.drewN 1⟩
    clear h
    refine WD.take 0 rfl (by kernel_rfl) (fun _ _ _ h => fin_panic h) hS (Val.ex fun x => Val.ldS 1 A49z T49z rfl h4 rfl) ?_
    refine WD.take 1 rfl (by kernel_rfl) (fun _ _ _ h => fin_panic h) hS Val.mv ?_
    refine WD.take 2 rfl (by kernel_rfl) (fun _ _ _ h => fin_panic h) hS (Val.ex fun x => Val.lookupB (k := kName) (fun w h => h.holds 3 _ rfl) hkt hkn (by decide) h7 rfl) ?_
    rw [hkB]
    refine WD.decB (fun q1 => ?_) (fun q1 => ?_)
    · refine WD.take 3 rfl (by kernel_rfl) (fun _ _ _ h => fin_panic h) hS Val.mv ?_
      refine WD.take 4 rfl (by kernel_rfl) (fun _ _ _ h => fin_panic h) hS Val.mv ?_
      refine WD.take 5 rfl (by kernel_rfl) (fun _ _ _ h => fin_panic h) hS (Val.ex fun x => Val.lookupB (k := kTool) (fun w h => h.holds 3 _ rfl) hkt hkn (by decide) h7 rfl) ?_
      rw [hkB]
      refine WD.decB (fun q2 => ?_) (fun q2 => ?_)
      · refine WD.take 6 rfl (by kernel_rfl) (fun _ _ _ h => fin_panic h) hS (Val.pick rfl) ?_
        refine WD.take 7 rfl (by kernel_rfl) (fun _ _ _ h => fin_panic h) hS Val.mv ?_
        refine WD.take 8 rfl (by kernel_rfl) (fun _ _ _ h => fin_panic h) hS Val.mv ?_
        refine WD.take 9 rfl (by kernel_rfl) (fun _ _ _ h => fin_panic h) hS (Val.ex fun x => Val.lookupB (k := kOuts) (fun w h => h.holds 3 _ rfl) hkt hkn (by decide) h7 rfl) ?_
        rw [hkB]
        refine WD.decB (fun q3 => ?_) (fun q3 => ?_)
        · refine WD.take 10 rfl (by kernel_rfl) (fun _ _ _ h => fin_panic h) hS (Val.pick rfl) ?_
          obtain ⟨⟨vs, hvs⟩, h⟩ := hS
          refine WD.one 11 rfl (by kernel_rfl) ?_
          refine WL.stS 0 h rfl T49z h2 (vs := tgc s si so) rfl hone rfl (by rw [hvs]; rfl) (fun w h => ?_)
          refine WL.nil ?_
          have hS : tS w0 F b2 [.box b4 (tgc s si so) 49, .box b5 [x, y] 92, .obj bm (mobj (boolL (D.map (·.1)))), ownS si s.ins, ownS so s.outs] w := ⟨⟨tgc s si so, rfl⟩, h⟩
          refine ⟨hS, ?_⟩
          refine WD.take 12 rfl (by kernel_rfl) (fun _ _ _ h => fin_panic h) hS Val.as ?_
          refine WD.nil (by kernel_rfl) ?_
          refine W.ret ?_
          exact finBox2 (v := .bool true) h 0 rfl h2 rfl A49z T49z rfl rfl (PTgI.yes hone (Hp.right (A := [_, _, _, _]) (B := [_, _]) h) (by rw [hfin]; simp [q1, q2, q3]))
        · refine WD.take 10 rfl (by kernel_rfl) (fun _ _ _ h => fin_panic h) hS (Val.pick rfl) ?_
          obtain ⟨⟨vs, hvs⟩, h⟩ := hS
          refine WD.one 11 rfl (by kernel_rfl) ?_
          refine WL.stS 0 h rfl T49z h2 (vs := tgc s si so) rfl hone rfl (by rw [hvs]; rfl) (fun w h => ?_)
          refine WL.nil ?_
          have hS : tS w0 F b2 [.box b4 (tgc s si so) 49, .box b5 [x, y] 92, .obj bm (mobj (boolL (D.map (·.1)))), ownS si s.ins, ownS so s.outs] w := ⟨⟨tgc s si so, rfl⟩, h⟩
          refine ⟨hS, ?_⟩
          refine WD.take 12 rfl (by kernel_rfl) (fun _ _ _ h => fin_panic h) hS Val.as ?_
          refine WD.nil (by kernel_rfl) ?_
          refine W.ret ?_
          exact finBox2 (v := .bool false) h 0 rfl h2 rfl A49z T49z rfl rfl (PTgI.no h.toExt hone rfl (by rw [hfin]; simp [q1, q2, q3]))
      · refine WD.take 6 rfl (by kernel_rfl) (fun _ _ _ h => fin_panic h) hS (Val.pick rfl) ?_
        refine WD.take 7 rfl (by kernel_rfl) (fun _ _ _ h => fin_panic h) hS Val.mv ?_
        refine WD.skip 8 rfl (by kernel_rfl) (fun _ _ _ h => fin_panic h) hS rfl ?_
        refine WD.skip 9 rfl (by kernel_rfl) (fun _ _ _ h => fin_panic h) hS rfl ?_
        refine WD.take 10 rfl (by kernel_rfl) (fun _ _ _ h => fin_panic h) hS (Val.pick rfl) ?_
        obtain ⟨⟨vs, hvs⟩, h⟩ := hS
        refine WD.one 11 rfl (by kernel_rfl) ?_
        refine WL.stS 0 h rfl T49z h2 (vs := tgc s si so) rfl hone rfl (by rw [hvs]; rfl) (fun w h => ?_)
        refine WL.nil ?_
        have hS : tS w0 F b2 [.box b4 (tgc s si so) 49, .box b5 [x, y] 92, .obj bm (mobj (boolL (D.map (·.1)))), ownS si s.ins, ownS so s.outs] w := ⟨⟨tgc s si so, rfl⟩, h⟩
        refine ⟨hS, ?_⟩
        refine WD.take 12 rfl (by kernel_rfl) (fun _ _ _ h => fin_panic h) hS Val.as ?_
        refine WD.nil (by kernel_rfl) ?_
        refine W.ret ?_
        exact finBox2 (v := .bool false) h 0 rfl h2 rfl A49z T49z rfl rfl (PTgI.no h.toExt hone rfl (by rw [hfin]; simp [q1, q2]))
    · refine WD.take 3 rfl (by kernel_rfl) (fun _ _ _ h => fin_panic h) hS Val.mv ?_
      refine WD.skip 4 rfl (by kernel_rfl) (fun _ _ _ h => fin_panic h) hS rfl ?_
      refine WD.skip 5 rfl (by kernel_rfl) (fun _ _ _ h => fin_panic h) hS rfl ?_
      refine WD.take 6 rfl (by kernel_rfl) (fun _ _ _ h => fin_panic h) hS (Val.pick rfl) ?_
      refine WD.take 7 rfl (by kernel_rfl) (fun _ _ _ h => fin_panic h) hS Val.mv ?_
      refine WD.skip 8 rfl (by kernel_rfl) (fun _ _ _ h => fin_panic h) hS rfl ?_
      refine WD.skip 9 rfl (by kernel_rfl) (fun _ _ _ h => fin_panic h) hS rfl ?_
      refine WD.take 10 rfl (by kernel_rfl) (fun _ _ _ h => fin_panic h) hS (Val.pick rfl) ?_
      obtain ⟨⟨vs, hvs⟩, h⟩ := hS
      refine WD.one 11 rfl (by kernel_rfl) ?_
      refine WL.stS 0 h rfl T49z h2 (vs := tgc s si so) rfl hone rfl (by rw [hvs]; rfl) (fun w h => ?_)
      refine WL.nil ?_
      have hS : tS w0 F b2 [.box b4 (tgc s si so) 49, .box b5 [x, y] 92, .obj bm (mobj (boolL (D.map (·.1)))), ownS si s.ins, ownS so s.outs] w := ⟨⟨tgc s si so, rfl⟩, h⟩
      refine ⟨hS, ?_⟩
      refine WD.take 12 rfl (by kernel_rfl) (fun _ _ _ h => fin_panic h) hS Val.as ?_
      refine WD.nil (by kernel_rfl) ?_
      refine W.ret ?_
      exact finBox2 (v := .bool false) h 0 rfl h2 rfl A49z T49z rfl rfl (PTgI.no h.toExt hone rfl (by rw [hfin]; simp [q1]))
theorem target_calls (F : Fz) (w0 : World) (hF : Sub F (hv w0)) {t : T} {a : Value} (ha : Arg F t a) (hnum : ∀ k ∈ t.kids, inR k.atom.n) : Calls Tryz.prog 21 #[a] w0 (PTgI F w0 (tgA t)) := by
  by_cases h6 : t.atom.k = 6
  · obtain ⟨x, y, D, hav, hD⟩ := ha.y112 h6
    exact target_rec F w0 hF ha h6 hnum hav hD
  · exact target_no F w0 hF ha h6
end Go.Proofs.YtmiihhbgfijcmaaGreat.K

