/- A part of the proof, under no conditions of its own: Ab20. -/
import Derived.Test.YtomkekilpdkjgaaDoorAb19
namespace Go.Ab
open Go Go.RowKit

/-! # From a law's contract to its row -/

variable {H : Type} {enc : TypeId × Value → H} {P : Program} {W W' : World}

theorem trodAll_carry (hl : laidOutB P = true) (hb : Below W.heap.size W W') : ∀ {ts : List TypeId} {vs : List Value} {ds : List (DataW H)} {ps : List MemPlace},
    (∀ t ∈ ts, P.readableRec t = true ∧ t < P.types.size) → DataW.TrodAll enc P W 0 (fun _ => true) true ts vs ds ps → (∀ x ∈ ps, x.block < W.heap.size) → DataW.TrodAll enc P W' 0 (fun b => decide (b < W.heap.size)) true ts vs ds ps
  | [], [], [], _, _, h, _ => h
  | t :: ts, v :: vs, d :: ds, ps, ht, h, hlt => by
    obtain ⟨p, q, h1, h2, rfl⟩ := h
    have ht1 := ht t List.mem_cons_self
    exact ⟨p, q, Below.trod hl ht1.1 ht1.2 h1 hb (fun x hx => hlt x (List.mem_append_left _ hx)),
      trodAll_carry hl hb (fun u hu => ht u (List.mem_cons_of_mem _ hu)) h2 (fun x hx => hlt x (List.mem_append_right _ hx)), rfl⟩
  | [], [], _ :: _, _, _, h, _ => absurd h (by intro h; cases h)
  | [], _ :: _, _, _, _, h, _ => absurd h (by intro h; cases h)
  | _ :: _, [], _, _, _, h, _ => absurd h (by intro h; cases h)
  | _ :: _, _ :: _, [], _, _, h, _ => absurd h (by intro h; cases h)

def readsB (P : Program) (ts : List TypeId) : Bool := ts.all fun t => P.readableRec t && decide (t < P.types.size)

theorem lifted {E : Ctx} {C : Checked} {os : Os} {f : FuncId} {fn : Func} {s : ChangeSpec} {apart fresh handsOn : Bool} {laid : List (String × DataW Unit)} {tb : TypeId} (hE : E.P = C.prog)
    (hA : ∀ W, laidMetH C.prog laid W → E.A W) (own : ownKnob C.prog.godebug = none) (started : os.Started) (noInit : C.prog.inits.idxOf? f = none) (hfn : C.prog.funcs[f]? = some fn)
    (witness : ∃ (w : World) (tape : Tape) (i : Input), w.os = os ∧ (w.forCall tape i).Shaped C.prog ∧ i.vars = [] ∧ Input.okWide C.prog (w.forCall tape i) .any w.heap.size f i ∧
      ((s.pre enc C.prog fn [] apart (w.forCall tape i).memory i.args ∧ laidMetH C.prog laid (w.forCall tape i).memory) ∧ sizedMet enc C.prog fn (OpenSpec.ofChange s) apart (w.forCall tape i).memory i.args) ∧ ({} : Assume).holds C.prog (lone (Frame.enter C.prog f i.args .normal) [] (w.forCall tape i)))
    (hvars : s.vars = []) (hres : fn.resultTypes = #[tb]) (htb : C.prog.underlying tb = some .bool) (hlo : laidOutB C.prog = true) (hrd : readsB C.prog fn.params.toList = true)
    (hopen : ∀ (W : World) (base : Nat) (args : Array Value) (ds : List (DataW H)) (p : List MemPlace), (∀ (j : Nat) t v, fn.params[j]? = some t → args[j]? = some v → Value.okWide C.prog W .any base t v) →
      DataW.TrodAll enc C.prog W 0 (fun _ => true) true fn.params.toList args.toList ds p →
      (∃ l, Vs (G0 W) W args l ∧ ∀ g d, ACalls E f l [] g d (dB true) []) ∧ s.fn H ds = { results := [.lit (.bool true)], args := ds }) :
    ReturnsInHanded {} C os f .any (fun w args => (s.pre enc C.prog fn [] apart w args ∧ laidMetH C.prog laid w) ∧ sizedMet enc C.prog fn (OpenSpec.ofChange s) apart w args)
      (s.post enc C.prog fn apart fresh handsOn false) := by
  refine returnsInHanded_of_change_and (C := C) (X := fun w _ => laidMetH C.prog laid w) (fun _ _ _ hh h => h.of_heap hh) own started noInit hfn witness ?_
  intro W base args ds gs before hval hW _ _ hL _
  have hW' := hW
  obtain ⟨p, q, hT, hV, rfl, hfz, hnd⟩ := hW
  rw [hvars] at hV
  obtain ⟨rfl, rfl⟩ : gs = [] ∧ q = [] := by
    cases gs with
    | nil => exact ⟨rfl, hV⟩
    | cons g r => exact absurd hV (by intro h; cases h)
  obtain ⟨⟨l, hvs, hl⟩, hs⟩ := hopen W base args ds p hval hT
  have hc := law_calls hl (hA W hL) hvs
  rw [hE] at hc
  refine hc.mono fun e W' ⟨he, hb⟩ => ⟨_, he, ds, [], _, [], p, [], hW', ?_, ?_, ?_, hb.frame _, fun h => by cases h⟩
  · rw [List.append_nil, hs, hres]
    exact ⟨[], [], shut_bool htb true, rfl, rfl⟩
  · rw [List.append_nil, hs]
    refine trodAll_carry hlo hb (fun t ht => ?_) hT (fun x hx => by simpa using hW'.lt x (List.mem_append_left _ hx))
    have := List.all_eq_true.1 hrd t ht
    simpa using this
  · rw [List.append_nil, hs, hvars]
    rfl

theorem Vs.cons {G : Gh} {w : World} {v : Value} {vs : Array Value} {d : D} {ds : List D} (h : V G w v d) (hs : Vs G w vs ds) : Vs G w (#[v] ++ vs) (d :: ds) :=
  Vs.append (a := #[v]) (x := [d]) ⟨rfl, fun i c d' hc hd => by
    cases i with
    | zero => cases hc; cases hd; exact h
    | succ i => simp at hd⟩ hs
theorem Vs.nil (G : Gh) (w : World) : Vs G w #[] [] := ⟨rfl, fun i c d hc hd => by simp at hd⟩
theorem Vs.one1 {G : Gh} {w : World} {v : Value} {d : D} (h : V G w v d) : Vs G w #[v] [d] := by simpa using Vs.cons h (Vs.nil G w)
theorem Vs.two {G : Gh} {w : World} {v v' : Value} {d d' : D} (h : V G w v d) (h' : V G w v' d') : Vs G w #[v, v'] [d, d'] := by simpa using Vs.cons h (Vs.one1 h')
theorem Vs.three {G : Gh} {w : World} {v v' v'' : Value} {d d' d'' : D} (h : V G w v d) (h' : V G w v' d') (h'' : V G w v'' d'') : Vs G w #[v, v', v''] [d, d', d''] := by simpa using Vs.cons h (Vs.two h' h'')
theorem Vs.four {G : Gh} {w : World} {v v' v'' v3 : Value} {d d' d'' d3 : D} (h : V G w v d) (h' : V G w v' d') (h'' : V G w v'' d'') (h3 : V G w v3 d3) : Vs G w #[v, v', v'', v3] [d, d', d'', d3] := by simpa using Vs.cons h (Vs.three h' h'' h3)

end Go.Ab

namespace Go.Ab
open Go
/-! ## Zero values -/
def zType : Value := .agg #[.string ByteArray.empty, .slice none 0 0, .int .i64 0]
def zSig : Value := .agg #[.string ByteArray.empty, .slice none 0 0, .slice none 0 0, .string ByteArray.empty, .slice none 0 0, .int .i64 0, .int .i64 0]
end Go.Ab
