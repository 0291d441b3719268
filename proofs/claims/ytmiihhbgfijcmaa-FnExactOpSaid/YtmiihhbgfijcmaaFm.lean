/- fromMap: a map's keys sorted, and its elements in their order; walked. -/
import Derived.Test.YtmiihhbgfijcmaaMp
namespace Go.Proofs.Ytmiihhbgfijcmaa.K
open Go Go.RowKit
set_option linter.unusedVariables false
set_option linter.unusedSimpArgs false
set_option maxRecDepth 20000
theorem C93 : CF Try.prog 93 := ⟨_, Try.func93, rfl, rfl⟩
def lookM {α : Type} : List (ByteArray × α) → ByteArray → α → α
  | [], k, z => z
  | (m, x) :: r, k, z => if m = k then x else lookM r k z
theorem lookM_at {α : Type} : ∀ (M : List (ByteArray × α)) (k : ByteArray) (z x : α) (j : Nat), (keysM M).Nodup → M[j]? = some (k, x) → lookM M k z = x
  | [], k, z, x, j, _, h => by simp at h
  | (m, y) :: r, k, z, x, 0, _, h => by
    simp at h
    rw [lookM, if_pos h.1, h.2]
  | (m, y) :: r, k, z, x, j + 1, hn, h => by
    have h' : r[j]? = some (k, x) := by simpa using h
    have hn' : m ∉ keysM r ∧ (keysM r).Nodup := by simpa [keysM] using hn
    have hmk : m ≠ k := fun e => hn'.1 (by rw [e]; exact List.mem_map.2 ⟨(k, x), List.mem_of_getElem? h', rfl⟩)
    rw [lookM, if_neg hmk, lookM_at r k z x j hn'.2 h']
def keyAt (M : SMap) (q : Nat) : ByteArray := ((M[q]?).map (·.1)).getD ⟨#[]⟩
theorem keyAt_some {M : SMap} {q : Nat} {p : ByteArray × Value} (h : M[q]? = some p) : keyAt M q = p.1 := by simp [keyAt, h]
theorem keyAt_all (M : SMap) : (List.range M.length).map (keyAt M) = keysM M := by
  apply List.ext_getElem?
  intro i
  simp only [List.getElem?_map, keysM]
  by_cases hi : i < M.length
  · rw [List.getElem?_range hi, List.getElem?_eq_getElem hi]
    simp [keyAt, hi]
  · rw [List.getElem?_eq_none (by simp; omega), List.getElem?_eq_none (by omega)]; rfl
theorem seen_len {n : Nat} {seen : List Nat} (hn : seen.Nodup) (hlt : ∀ q ∈ seen, q < n) : seen.length ≤ n := by
  have hp : seen.Perm ((List.range n).filter fun q => seen.contains q) := (List.perm_ext_iff_of_nodup hn (List.nodup_range.filter _)).2 fun q => by
    simp only [List.mem_filter, List.mem_range, List.contains_iff_mem]
    exact ⟨fun h => ⟨hlt q h, h⟩, fun h => h.2⟩
  rw [hp.length_eq]
  exact Nat.le_trans (List.length_filter_le _ _) (by simp)
theorem pair_one {u v : Value} (hu : u.oneCell' = true) (hv : v.oneCell' = true) : ∀ x ∈ [u, v], x.oneCell' = true := by simp [hu, hv]
theorem seen_all {M : SMap} {seen : List Nat} (hn : seen.Nodup) (hlt : ∀ q ∈ seen, q < M.length) (hall : ∀ q, q < M.length → q ∈ seen) : sortB (seen.map (keyAt M)) = sortB (keysM M) ∧ seen.length = M.length := by
  have hp : seen.Perm (List.range M.length) := (List.perm_ext_iff_of_nodup hn List.nodup_range).2 fun q => ⟨fun h => List.mem_range.2 (hlt q h), fun h => hall q (List.mem_range.1 h)⟩
  refine ⟨?_, by simpa using hp.length_eq⟩
  rw [← keyAt_all]
  exact sortB_of_perm (hp.map _)
def PFm (F : Fz) (w0 : World) (M : SMap) (e : Ending) (w : World) : Prop :=
  ∃ F' a c, e = .returned (.agg #[a, c]) ∧ Ext F w0 F' w ∧ FRow F' a M.length 1 ((sortB (keysM M)).map Value.string) ∧ FRow F' c M.length 1 ((sortB (keysM M)).map fun k => lookM M k .nilIface)
def fmI (w0 : World) (F : Fz) (b b2 b3 r : Nat) (M : SMap) (m : Nat) (R : Regs) (w : World) : Prop :=
  ∃ (seen : List Nat) (na : Value), m + seen.length = M.length ∧ seen.Nodup ∧ (∀ q ∈ seen, q < M.length) ∧ Hp w0 F F [.box b2 [.slice none 0 0, .slice none 0 0] 112, .box b3 [na, .slice none 0 0] 112, .obj r (mIter b M.length seen), .own na 9 1 (seen.map (keyAt M)).length ((seen.map (keyAt M)).map Value.string)] w ∧
    R 0 = .map (some b) ∧ R 2 = pt b2 ∧ R 3 = pt b3 ∧ R 9 = pt r
def fmJ (w0 : World) (F : Fz) (b b2 b3 : Nat) (ro : Ch) (na : Value) (M : SMap) (m : Nat) (R : Regs) (w : World) : Prop :=
  ∃ (i : Nat) (va : Value), m + i = M.length ∧ Hp w0 F F [.box b2 [.slice none 0 0, .slice none 0 0] 112, .box b3 [na, va] 112, ro, .own na 9 1 M.length ((sortB (keysM M)).map Value.string), .own va 71 1 i (((sortB (keysM M)).take i).map fun k => lookM M k .nilIface)] w ∧
    R 0 = .map (some b) ∧ R 2 = pt b2 ∧ R 3 = pt b3 ∧ R 24 = na ∧ R 25 = .int .i64 (M.length : Int) ∧ R 26 = .int .i64 (i : Int)
set_option maxHeartbeats 2000000 in
theorem fromMap_calls (F : Fz) (w0 : World) (hF : Sub F (hv w0)) (b : Nat) (M : SMap) (hb : F b = some (mobj M)) (hM : KeyB M) (hn : (keysM M).Nodup) (hV : ∀ p ∈ M, p.2.oneCell' = true) (hl : M.length ≤ 1048576) : Calls Try.prog 93 #[.map (some b)] w0 (PFm F w0 M) := by
  refine calls 40 Try.func93 rfl rfl rfl ?_
  have h := Hp.start hF
  have hg : ∀ {L : List Ch} (w : World), Hp w0 F F L w → w.heap[b]? = some (mobj M) := fun w h => h.sub _ _ hb
  refine W.seq (W.region rfl ?_)
  refine WL.alloc h T112 (fun b2 w h => ?_)
  refine WL.nil ?_
  refine W.seq (W.region rfl ?_)
  refine WL.p h (Val.build0 B112e) ?_
  refine WL.alloc h T112 (fun b3 w h => ?_)
  refine WL.stS 1 h rfl T112 rfl (vs := [.slice none 0 0, .slice none 0 0]) rfl (pair_one rfl rfl) rfl rfl (fun w h => ?_)
  refine WL.nil ?_
  refine W.seq (W.seq (W.region rfl ?_))
  refine WL.p h Val.mv ?_
  refine WL.range (kt := 9) (et := 71) (M := M) h hg Try.underlying142 rfl (fun r w h => ?_)
  refine WL.nil ?_
  refine W.block ?_
  have h := h.nilRow 9 1
  refine W.loop (fmI w0 F b b2 b3 r M) M.length ?_ (fun m R w hI => ?_)
  · exact ⟨[], .slice none 0 0, by simp, List.nodup_nil, by simp, h.cast (by simp; rfl), rfl, rfl, rfl, rfl⟩
  clear h
  obtain ⟨seen, na, hm, hnd, hlt, h, h0, h2, h3, h9⟩ := hI
  have hsl := seen_len hnd hlt
  refine W.seq (W.region rfl ?_)
  refine WL.next 2 (M := M) h hg rfl h9 (fun hall => ?_) (fun q w p hp hq h => ?_)
  · refine WL.p h (Val.ext (v := .bool false) rfl rfl) ?_
    refine WL.nil ?_
    refine W.seq ?_
    refine W.condF rfl ?_
    refine W.exit ?_
    obtain ⟨hs, hsl2⟩ := seen_all hnd hlt hall
    have h : Hp w0 F F [.box b2 [.slice none 0 0, .slice none 0 0] 112, .box b3 [na, .slice none 0 0] 112, .obj r (mIter b M.length seen), .own na 9 1 (seen.map (keyAt M)).length ((seen.map (keyAt M)).map Value.string)] w := h
    refine W.seq (W.region rfl ?_)
    refine WL.p h (Val.fa O112_0 h3) ?_
    refine WL.p h (Val.ld 1 A24 rfl rfl rfl) ?_
    refine WL.call C106 (args := [na]) rfl ((sort_calls h 3 rfl (by simp; omega)).mono ?_)
    rintro e w' ⟨rfl, h⟩
    rw [hs] at h
    have hlen2 : (seen.map (keyAt M)).length = M.length := by simp [hsl2]
    rw [hlen2] at h
    have h : Hp w0 F F [.box b2 [.slice none 0 0, .slice none 0 0] 112, .box b3 [na, .slice none 0 0] 112, .obj r (mIter b M.length seen), .own na 9 1 M.length ((sortB (keysM M)).map Value.string)] w' := h
    refine ⟨_, rfl, ?_⟩
    refine WL.nil ?_
    refine W.seq (W.seq (W.region rfl ?_))
    refine WL.p h (Val.fa O112_0 h3) ?_
    refine WL.p h (Val.ld 1 A24 rfl rfl rfl) ?_
    refine WL.p h (Val.len Try.underlying24 rfl (h.row 3 rfl).val) ?_
    refine WL.p h Val.mv ?_
    refine WL.nil ?_
    refine W.block ?_
    have h := h.nilRow 71 1
    refine W.loop (fmJ w0 F b b2 b3 (.obj r (mIter b M.length seen)) na M) M.length ?_ (fun m R w hI => ?_)
    · exact ⟨0, .slice none 0 0, by omega, h, h0, h2, h3, rfl, rfl, rfl⟩
    clear h h0 h2 h3 h9
    obtain ⟨i, va, hm2, h, h0, h2, h3, h24, h25, h26⟩ := hI
    have hkl : (sortB (keysM M)).length = M.length := by rw [sortB_len]; simp [keysM]
    refine W.seq (W.region rfl ?_)
    refine WL.p h (Val.lt h26 h25) ?_
    refine WL.dec (fun c1 => ?_) (fun c1 => ?_)
    · obtain ⟨k, hk⟩ : ∃ k, (sortB (keysM M))[i]? = some k := ⟨_, List.getElem?_eq_getElem (by omega)⟩
      obtain ⟨j, x, hj⟩ : ∃ j x, M[j]? = some (k, x) := by
        have : k ∈ keysM M := (sortB_perm (keysM M)).mem_iff.1 (List.mem_of_getElem? hk)
        obtain ⟨p, hp, rfl⟩ := List.mem_map.1 this
        obtain ⟨j, hj⟩ := List.mem_iff_getElem?.1 hp
        exact ⟨j, p.2, hj⟩
      have hlk := lookM_at M k .nilIface x j hn hj
      have hone := hV _ (List.mem_of_getElem? hj)
      refine WL.nil ?_
      refine W.seq ?_
      refine W.condT rfl ?_
      refine W.skip ?_
      refine W.seq (W.block ?_)
      refine W.seq (W.region rfl ?_)
      refine WL.p h (Val.ix (i := i) Try.underlying24 T9 h24 h26 ((h.row 3 rfl).slice (by omega)) (by omega)) ?_
      refine WL.p h (Val.ldO 3 A9 rfl rfl (u := .string k) (by rw [Nat.mul_one, List.getElem?_map, hk]; rfl)) ?_
      refine WL.p h Val.as ?_
      refine WL.nil ?_
      refine W.region rfl ?_
      refine WL.p h (Val.fa O112_1 h3) ?_
      refine WL.p h (Val.ld 1 A109 rfl rfl (v := va) rfl) ?_
      refine WL.p h Val.mv ?_
      refine WL.p h Val.mv ?_
      refine WL.p h (Val.lookup (M := M) (k := k) hg Try.underlying142 Try.underlying9 hM hn h0 rfl hj) ?_
      refine WL.bs1 h Try.underlying109 T71 (by decide) (cs := [x]) (cells1 hone) rfl (fun b8 w h => ?_)
      refine WL.app 4 h rfl Try.underlying109 T71 (by decide) rfl rfl (news := [x]) rfl (box_news h (i := 5) rfl) (one1 hone) (by omega) (by omega) (fun va' w h => ?_)
      refine WL.p h (Val.fa O112_1 h3) ?_
      refine WL.st 1 (v := va') h rfl T109 rfl rfl (h.own1 4 rfl) rfl (fun w h => ?_)
      refine WL.nil ?_
      refine W.region rfl ?_
      refine WL.p h (Val.addi (c := ((i + 1 : Nat) : Int)) h26 rfl (by omega)) ?_
      refine WL.p h Val.mv ?_
      refine WL.nil ?_
      refine ⟨m - 1, by omega, i + 1, va', by omega, (h.keep 5).cast ?_, h0, h2, h3, h24, h25, rfl⟩
      obtain ⟨l1, e1⟩ := List.getElem?_eq_some_iff.1 hk
      rw [List.take_succ_eq_append_getElem l1, e1]
      simp [hlk]
    · refine WL.nil ?_
      refine W.seq ?_
      refine W.condF rfl ?_
      refine W.exit ?_
      have hi : i = M.length := by omega
      subst hi
      rw [List.take_of_length_le (by omega)] at h
      refine W.seq (W.region rfl ?_)
      refine WL.p h (Val.ldS 1 A112 T112 rfl h3 rfl) ?_
      refine WL.stS 0 h rfl T112 h2 (vs := [na, va]) rfl (pair_one (h.own1 3 rfl) (h.own1 4 rfl)) rfl rfl (fun w h => ?_)
      refine WL.nil ?_
      obtain ⟨F1, hs1, h, hr1⟩ := h.freezeRow 3 rfl
      obtain ⟨F2, hs2, h, hr2⟩ := h.freezeRow 4 rfl
      refine W.ret ?_
      exact finBox h 0 rfl h2 rfl A112 T112 rfl ⟨F2, na, va, rfl, h.toExt, hr1.mono hs2, hr2⟩
  · refine WL.p h (Val.ext (v := .bool true) rfl rfl) ?_
    refine WL.nil ?_
    refine W.seq ?_
    refine W.condT rfl ?_
    refine W.skip ?_
    refine W.block ?_
    have hqlt := (List.getElem?_eq_some_iff.1 hp).1
    have hkq := keyAt_some hp
    refine W.seq (W.region rfl ?_)
    refine WL.p h (Val.entry 2 (M := M) hg rfl h9 hp) ?_
    refine WL.p h (Val.ext (v := .string p.1) rfl rfl) ?_
    refine WL.p h Val.as ?_
    refine WL.nil ?_
    refine W.region rfl ?_
    refine WL.p h (Val.fa O112_0 h3) ?_
    refine WL.p h (Val.ld 1 A24 rfl rfl rfl) ?_
    refine WL.p h Val.mv ?_
    refine WL.bs1 h Try.underlying24 T9 (by decide) (cs := [.string p.1]) rfl rfl (fun b8 w h => ?_)
    refine WL.app 3 h rfl Try.underlying24 T9 (by decide) rfl rfl (news := [.string p.1]) rfl (box_news h (i := 4) rfl) (one1 rfl) (by simp; omega) (by simp; omega) (fun na' w h => ?_)
    refine WL.p h (Val.fa O112_0 h3) ?_
    refine WL.st 1 (v := na') h rfl T24 rfl rfl (h.own1 3 rfl) rfl (fun w h => ?_)
    refine WL.nil ?_
    have hnd' : (seen ++ [q]).Nodup := List.nodup_append.2 ⟨hnd, by simp, fun a ha c hc => by simp at hc; subst hc; exact fun e => hq (e ▸ ha)⟩
    have hlt' : ∀ x ∈ seen ++ [q], x < M.length := fun x hx => by
      rcases List.mem_append.1 hx with hx | hx
      · exact hlt x hx
      · rw [List.mem_singleton.1 hx]; exact hqlt
    have hl2 := seen_len hnd' hlt'
    simp only [List.length_append, List.length_singleton] at hl2
    exact ⟨m - 1, by omega, seen ++ [q], na', by simp; omega, hnd', hlt', (h.keep 4).cast (by simp [hkq]), h0, h2, h3, h9⟩
end Go.Proofs.Ytmiihhbgfijcmaa.K

