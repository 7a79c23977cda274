/- The program's place: a node's number is put among the Kids of what is open, or among the roots. No condition but the sizes. -/
import Derived.Test.YtiblamapjekdeaaGreatFd
import Derived.Deep.RegionLaw
import Derived.Deep.QuietTactic
namespace Go.Proofs.YtiblamapjekdeaaGreat
open Go.RowKit
attribute [local go_sem] Oper.semAt_some
theorem wpList_runA {W w' : World} {ops : Array Oper} {rest : List Oper} {o : Oper} {a : Act} {Q : Exit → Act → World → Prop} (hgd : o.guard = none) (s x : Operand) (t : TypeId)
    (ho : o.op = .call { callee := .builtin .append, args := #[s, x], argTypes := #[t, t] }) (v vx v' : Value) (hs : a.eval s = v) (hx : a.eval x = vx)
    (hr : (Builtin.append_ #[t, t] o.type #[v, vx]).run Tryz.prog W = .ok v' w') (k : wpList Tryz.prog ops Q rest (a.put o.dst v') w') : wpList Tryz.prog ops Q (o :: rest) a W := by
  refine wpList_plain hgd fun _ hK => ?_
  unfold Oper.wp execOp
  simp only [ho, resolve, invoke, builtin, Sem.run_bind, Sem.run_pure, Result.andThen_ok, List.map_toArray, List.map_cons, List.map_nil, hs, hx, hr]
  exact hK _ _ k
def DidR (N bb : Nat) (s : Mk) (d n : Int) (W : World) (v : Value) (e : Ending) (w' : World) : Prop := e = .returned v ∧ Bd w' N bb s d n ∧ Below N W w'
set_option maxRecDepth 10000 in
set_option maxHeartbeats 1000000 in
theorem place_any (i N bb : Nat) (s : Mk) (d n : Int) (W : World) (h : Bd W N bb s d n) (hs : s.Sz 1900000) (ok : s.Ok) :
    Calls Tryz.prog 37 #[.pointer (some ⟨bb, 0, none⟩), .int .i64 (i : Int)] W (DidR N bb (place i s) d n W (.tuple #[])) := by
  obtain ⟨R, m, h⟩ := h
  have hc := h.cells
  cases hw : s.way.getLast? with
  | none =>
    have hw0 : s.way = [] := List.getLast?_eq_none_iff.1 hw
    obtain ⟨A, c, w', hrun, k1, f1, hbd, hbel⟩ := h.root hs hw0 i
    obtain ⟨WA, wcap, hwv, _⟩ := h.made.wayForm
    rw [hw0] at hwv
    obtain ⟨c0, c1, c2, c3, c4, c5, hfz, hbb⟩ := hc
    rw [hwv] at c3
    obtain ⟨rv, hrv⟩ : ∃ rv, (R 1).v = rv := ⟨_, rfl⟩
    rw [hrv] at hrun k1 c1
    have k1a := (((Below.refl W.heap.size W).alloc (Nat.le_refl _) (.cells #[.int .i64 (i : Int)] 3)).cell (p := ⟨bb, 1, none⟩) hbb).trans c1
    have HD := Lib.hid (And.intro hbd hbel)
    clear h hs ok hbd hbel hfz hwv hrv
    go_enter Tryz.func37, Tryz.ntmps37
    go_wp2_with (first
      | (at_builtin; refine wpList_runA rfl _ _ 26 rfl _ _ _ rfl rfl hrun ?_))
    go_end0
    exact ⟨rfl, HD.out.1, HD.out.2⟩
  | some u =>
    have hu : u < s.nodes.length := ok.way u (List.mem_of_getLast? hw)
    obtain ⟨ng, nc, wg, wc, hv0, hv2, hwl, kw, kn, _⟩ := h.kid hs hw hu i
    have hwsz := hs.way
    have hnsz := hs.nodes
    obtain ⟨c0, c1, c2, c3, c4, c5, hfz, hbb⟩ := hc
    rw [hv2] at c3
    rw [hv0] at c0
    obtain ⟨q, hq⟩ : ∃ q, s.way.length = q := ⟨_, rfl⟩
    obtain ⟨p, hp⟩ : ∃ p, s.nodes.length = p := ⟨_, rfl⟩
    have HS := Lib.hid (And.intro h (And.intro hs (And.intro hw (And.intro hu hv0))))
    rw [hq] at c3 kw hwl hwsz
    rw [hp] at c0 hu hnsz
    have e1 : ((q : Int) == 0) = false := beq_eq_false_iff_ne.2 (by omega)
    have e2 : (0 : Int) ≤ (q : Int) - 1 := by omega
    have e3 : (q : Int) - 1 < (q : Int) := by omega
    have e4 : ((q : Int) - 1).toNat = q - 1 := by omega
    have e5 : (u : Int) < (p : Int) := by omega
    have e6 : wrap64 ((q : Int) - 1) = (q : Int) - 1 := IntWalk.wrap64_in _ (by omega)
    clear h hs ok hfz hv0 hv2 hq hp hw
    go_enter Tryz.func37, Tryz.ntmps37
    go_wp2_with fail
    go_quiet (fail)
    generalize hV : W.drewN _ = V
    have hWV : Below W.heap.size W V := by rw [← hV]; exact below_drewN (Below.refl _ W) _
    obtain ⟨h, hs, hw, hu, hv0⟩ := HS.out
    have h' := h.below hWV
    obtain ⟨ng', nc', wg', wc', hv0', hv2', _, _, kn', A, c, w', l, hrun, k1, f1, hbd, hbel⟩ := h'.kid hs hw hu i
    rw [hv0] at hv0'
    cases hv0'
    have HD := Lib.hid (And.intro hbd (hWV.mono h.lt |>.trans hbel))
    obtain ⟨rv, hrv⟩ : ∃ rv, (R (4 + u)).v = rv := ⟨_, rfl⟩
    rw [hrv] at hrun k1 kn'
    clear h hs hw hu hv0 h' hv2' hbd hbel hrv hWV hV HS c0 c1 c2 c3 c4 c5 kw kn hbb
    go_wp2_with (first
      | (at_builtin; refine wpList_runA rfl _ _ 26 rfl _ _ _ rfl rfl hrun ?_))
    go_end0
    exact ⟨rfl, HD.out.1, HD.out.2⟩
end Go.Proofs.YtiblamapjekdeaaGreat
