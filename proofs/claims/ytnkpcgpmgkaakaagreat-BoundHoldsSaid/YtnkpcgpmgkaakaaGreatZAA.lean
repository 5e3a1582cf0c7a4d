/- A part of the proof: ZAA. -/
import Derived.Calls
import Derived.Tactics
import Derived.Laws.AppendOwn
import Derived.Below
import Derived.Orders
import Derived.Laws.AppendOwnNone
import Derived.RangeFuncBound
import Derived.RangeFuncNested
import Derived.OrdersIn
import Derived.TacticsIn
import Derived.Laws.BytesArg
namespace Go
abbrev dO:=@List.getElem?_eq_getElem
abbrev dP:=@List.getElem_mem
abbrev dQ:=@List.length_append
abbrev dW:=@List.getElem?_eq_some_iff
abbrev dX:=@Nat.zero_le
abbrev dY:=@List.mem_cons_self
abbrev dZ:=@Int.tdiv_eq_ediv_of_nonneg
abbrev ea:=@List.mem_cons_of_mem
abbrev eb:=@List.getElem?_take
abbrev ec:=@Nat.le_refl
abbrev ed:=@Int.tmod_eq_emod_of_nonneg
abbrev ee:=@Option.map_eq_some_iff
abbrev ef:=@Nat.le_trans
abbrev eg:=@List.mem_singleton
abbrev eh:=@List.mem_map
abbrev ei:=@List.length_map
abbrev ej:=@Bool.and_eq_true
abbrev ek:=@List.drop_eq_getElem_cons
abbrev eo:=@List.take_length
abbrev ep:=@List.take_add_one
abbrev eq:=@List.mem_cons
abbrev er:=@Array.getD_eq_getD_getElem?
abbrev eu:=@List.mem_append
abbrev ew:=@List.mem_of_getElem?
abbrev ex:=@List.eq_nil_of_length_eq_zero
abbrev ey:=@List.getElem?_cons_zero
abbrev ez:=@List.mem_flatMap
abbrev eA:=@List.getElem?_toArray
abbrev eB:=@List.length_cons
abbrev eC:=@List.map_append
abbrev eD:=@List.length_take
abbrev eE:=@List.append_assoc
abbrev eF:=@List.getElem?_append_left
abbrev eG:=@List.length_take_of_le
abbrev eH:=@Option.map_some
abbrev eI:=@List.mem_append_left
abbrev eJ:=@List.getElem?_append_right
abbrev eK:=@List.getElem?_map
abbrev eL:=@List.all_eq_true
abbrev eM:=@List.map_cons
abbrev eN:=@Nat.zero_add
abbrev eO:=@List.flatMap_cons
abbrev eP:=@List.mem_append_right
abbrev eQ:=@List.foldl_append
abbrev eR:=@List.getElem?_drop
abbrev eS:=@Array.getElem?_eq_none
abbrev eT:=@List.mem_iff_getElem
abbrev eU:=@List.findIdx?_eq_some_iff_getElem
abbrev eV:=@Nat.lt_of_lt_of_le
abbrev eW:=@Array.getElem?_setIfInBounds
abbrev eX:=@Option.getD_some
abbrev eY:=@List.drop_length
abbrev eZ:=@List.length_nil
abbrev fa:=@Array.getElem?_eq_some_iff
abbrev fb:=@Bool.false_eq_true
abbrev fc:=@Bool.false_and
abbrev fe:=@List.append_nil
abbrev ff:=@List.mem_of_mem_take
abbrev fg:=@List.mem_iff_getElem?
abbrev fh:=@List.getElem?_eq_none
abbrev fj:=@Option.bind_eq_some_iff
abbrev fk:=@Array.getElem?_toList
abbrev fl:=@List.getD_eq_getElem?_getD
abbrev fp:=@List.drop_eq_nil_of_le
abbrev fq:=@Function.comp_def
abbrev fu:=@Nat.le_succ
abbrev fw:=@Nat.mul_le_mul_right
abbrev fz:=@List.foldl_cons
abbrev fA:=@List.nodup_cons
abbrev fB:=@List.map_map
abbrev fC:=@List.take_append_drop
abbrev fD:=@Array.getElem?_eq_getElem
abbrev fE:=@List.mem_range
abbrev fF:=@List.length_zipWith
abbrev fG:=@Nat.add_mul
abbrev fH:=@List.all_eq_false
abbrev fI:=@Bool.eq_false_iff
abbrev fJ:=@List.mem_filterMap
abbrev fK:=@List.getElem?_cons_succ
abbrev fL:=@Bool.false_or
abbrev fM:=@Option.none_or
abbrev fN:=@Bool.and_false
abbrev fO:=@List.take_of_length_le
abbrev fP:=@Option.isSome_iff_exists
abbrev fQ:=@Bool.not_true
abbrev fR:=@List.filterMap_cons
abbrev fS:=@List.mem_filter
abbrev fT:=@Option.bind_some
abbrev fU:=@Nat.add_assoc
abbrev fV:=@List.sum_cons
abbrev fW:=@Bool.or_eq_true
abbrev fX:=@Nat.le_of_not_lt
abbrev fY:=@List.getElem_map
abbrev fZ:=@List.flatMap_nil
abbrev f5:=@Nat.add_left_comm
abbrev f7:=@Bool.not_false
abbrev f8:=@List.cons_append
abbrev f9:=@List.map_nil
abbrev ga:=@Nat.le_of_lt
abbrev gb:=@List.size_toArray
abbrev gc:=@List.nodup_append
abbrev gd:=@List.getElem_append_left
abbrev ge:=@Bool.eq_iff_iff
abbrev gf:=@Nat.mul_comm
abbrev gg:=@List.length_set
abbrev gh:=@Option.toList_some
abbrev gi:=@Array.mem_append
abbrev gj:=@Nat.lt_succ_self
abbrev gk:=@Bool.true_and
abbrev gl:=@List.getElem?_set
abbrev gp:=@Option.map_map
abbrev gq:=@Nat.add_comm
abbrev gr:=@Int.ofNat_eq_zero
abbrev gs:=@Nat.le_antisymm
abbrev gt:=@List.nil_append
abbrev gu:=@List.all_append
abbrev gv:=@Array.toArray_toList
abbrev gw:=@Int.toNat_natCast
abbrev gx:=@List.ext_getElem?
abbrev gy:=@List.flatMap_append
abbrev gz:=@Array.getElem?_map
abbrev gA:=@Int.lt_or_eq_of_le
abbrev gB:=@Array.mem_of_getElem?
abbrev gC:=@List.getElem_append_right
abbrev gD:=@Nat.add_zero
abbrev gE:=@Array.mem_toList_iff
abbrev gF:=@List.getElem?_take_of_lt
abbrev gG:=@List.take_zero
abbrev gH:=@Nat.lt_of_not_le
abbrev gI:=@Nat.min_eq_right
abbrev gJ:=@Nat.sub_self
abbrev gK:=@List.sum_append
abbrev gL:=@Bool.and_true
abbrev gM:=@List.length_singleton
abbrev gN:=@Array.getElem?_modify
abbrev gO:=@List.drop_sublist
abbrev gP:=@List.drop_zero
abbrev gQ:=@Array.getElem?_append_left
abbrev gR:=@Bool.true_or
abbrev gS:=@List.map_set
abbrev gT:=@List.pairwise_iff_getElem
abbrev gU:=@List.getElem?_range
abbrev gV:=@Array.length_toList
abbrev gW:=@List.map_congr_left
abbrev gX:=@Array.toList_append
abbrev gY:=@Nat.mul_le_mul_left
abbrev gZ:=@Array.size_setIfInBounds
abbrev hG:=@Bool.toNat_true
abbrev hW:=@Option.isSome_none
abbrev hZ:=@List.pairwise_cons
abbrev h8:=@List.length_eq_zero_iff
abbrev ia:=@Nat.le_mul_of_pos_right
abbrev ib:=@Bool.not_eq_true'
abbrev ic:=@Array.size_append
abbrev ie:=@List.length_filter_le
abbrev ig:=@Bool.toNat_false
abbrev ii:=@Int.natCast_zero
abbrev ij:=@Nat.succ_le_succ
abbrev ik:=@Nat.lt_irrefl
abbrev il:=@Nat.div_lt_of_lt_mul
abbrev im:=@Nat.le_zero
abbrev io:=@List.getElem?_mapIdx
abbrev ip:=@List.take_succ_cons
abbrev iq:=@Nat.succ_pos
abbrev ir:=@Nat.lt_or_ge
abbrev iu:=@List.nodup_nil
abbrev iv:=@Nat.mul_add
end Go
namespace Go.Ab
open Go Go.RowKit
theorem OP {p:Program} {w w' : World} {at_ k:Addr} {u:TypeId} {v:Value} {b:Bool} {l:List Addr} (h:w.viewStore p at_ u k v b=.ok (w',l)):w'.drawn=w.drawn:=by
 unfold World.viewStore at h;simp only[bind,Except.bind,pure,Except.pure] at h
 repeat' (split at h)
 all_goals first | (cases h; done) | (cases h; rfl)
theorem LI {α:Type}:∀ (a:Ask α) (w:World),w.drawn≤(w.ask a).2.drawn
 | .done a,w=>ec _
 | .ask what range k,w=>by
  simp only[World.ask];split
  ·exact LI (k 0) w
  ·exact ef (fu _) (LI (k _) { w with drawn:=w.drawn + 1 })
theorem WY (w:World) (c:Sys):w.drawn≤(w.sys c).2.drawn:=by
 have h:=LI (Kernel.perform c w.os) w;unfold World.sys;generalize w.ask (Kernel.perform c w.os)=r at h;split
 ·exact ec _
 ·exact h
theorem Cr {α:Type} {P:Program}:∀ (m:Sem α) (w w' : World) (v:α),m.run P w=.ok v w'→w.drawn≤w'.drawn
 | .pure a,w,w',v,h=>by
  simp only[Sem.run] at h;cases h;exact ec _
 | .load m a k,w,w',v,h=>by
  simp only[Sem.run] at h;split at h
  ·exact Cr _ _ _ _ h
  ·split at h
   ·exact Cr _ _ _ _ h
   ·cases h
 | .store m a (.agg x) k,w,w',v,h=>by simp[Sem.run] at h
 | .store m a (.tuple x) k,w,w',v,h=>by simp[Sem.run] at h
 | .store m a x k,w,w',v,h=>by
  by_cases hx:(∃ y,x=.agg y)∨∃ y,x=.tuple y
  ·rcases hx with ⟨y,rfl⟩ | ⟨y,rfl⟩ <;> simp[Sem.run] at h
  ·have e:(Sem.store m a x k).run P w=(match w.cell? a with
    | some _ => if w.frozen? a then .halt (.unsupported (.unsafePointer "a write to bytes that a string shares")) w else k.run P (w.setCell a x)
    | none=>match w.farStore P a x (m == .atomic) with
     | .ok (w,_)=>k.run P w
     | .error h=>.halt h w):=by
    cases x <;> first | rfl | (exfalso; exact hx (.inl ⟨_,rfl⟩)) | (exfalso; exact hx (.inr ⟨_,rfl⟩))
   rw[e] at h;split at h
   ·split at h
    ·cases h
    ·exact Cr k (w.setCell a x) w' v h
   ·split at h
    ·rename_i d l b;have:d.drawn=w.drawn:=by
      unfold World.farStore at b;split at b
      ·split at b
       ·rename_i r f;cases b;exact OP f
       ·cases b
      ·cases b
     rw[← this];exact Cr k d w' v h
    ·cases h
 | .new o k,w,w',v,h=>by
  simp only[Sem.run] at h;exact Cr (k w.heap.size) { w with heap:=w.heap.push o } w' v h
 | .shape r k,w,w',v,h=>by
  simp only[Sem.run] at h;exact Cr _ _ _ _ h
 | .freeze a n k,w,w',v,h=>by
  simp only[Sem.run] at h;have e:(w.freeze a n).drawn=w.drawn:=by unfold World.freeze; split <;> rfl
  rw[← e];exact Cr _ _ _ _ h
 | .frozen a k,w,w',v,h=>by
  simp only[Sem.run] at h;exact Cr _ _ _ _ h
 | .getObj r k,w,w',v,h=>by
  simp only[Sem.run] at h;split at h
  ·cases h
  ·exact Cr _ _ _ _ h
  ·cases h
 | .setObj r o k,w,w',v,h=>by
  simp only[Sem.run] at h;split at h
  ·cases h
  ·exact Cr k { w with heap:=w.heap.setIfInBounds r o } w' v h
  ·cases h
 | .choose q k,w,w',v,h=>by
  simp only[Sem.run] at h;split at h
  ·exact Cr _ _ _ _ h
  ·exact ef (fu _) (Cr (k _) { w with drawn:=w.drawn + 1 } w' v h)
 | .sys c k,w,w',v,h=>by
  simp only[Sem.run] at h;exact ef (WY w c) (Cr _ _ _ _ h)
 | .program k,w,w',v,h=>by
  simp only[Sem.run] at h;exact Cr _ _ _ _ h
 | .mark _ k,w,w',v,h=>by
  simp only[Sem.run] at h;exact Cr _ _ _ _ h
 | .halt h0,w,w',v,h=>by
  simp only[Sem.run] at h;cases h
structure Bel (B:Nat) (w w' : World):Prop extends Below B w w' where
 drawn:w.drawn≤w'.drawn
theorem Bel.refl (B:Nat) (w:World):Bel B w w:=⟨Below.refl B w,ec _⟩
theorem Bel.draw {B:Nat} {a w:World} (h:Bel B a w):Bel B a w.drew:=⟨h.toBelow.drew,Nat.le_succ_of_le h.drawn⟩
theorem Bel.more {B:Nat} {a w:World} (h:Bel B a w) (hB:B≤w.heap.size) (o:Obj):Bel B a (w.alloc o):=⟨h.toBelow.alloc hB o,h.drawn⟩
structure Gr (w w' : World) (row:Option Nat):Prop extends World.grownBy w w' row where
 drawn:w.drawn≤w'.drawn
theorem Gr.of {w w' : World} {row:Option Nat} (h:w.grownBy w' row) (hd:w.drawn≤w'.drawn:=by first | exact ec _ | exact fu _):Gr w w' row:=⟨h,hd⟩
theorem GV (w:World) (o:Obj):Gr w (w.alloc o) none:=⟨World.grownBy_alloc w o none,ec _⟩
structure Nm where
 g:Nat
 i:Nat
 j:Nat
 deriving DecidableEq
inductive KC where
 | str
 | num (k:IntKind)
 | boo
 deriving DecidableEq
inductive KS where
 | one (c:KC)
 | agg (cs:List KC)
 deriving DecidableEq
def KC.fits:KC→Value→Bool
 | .str,.string _=>true
 | .num k,.int k' _=>decide (k=k')
 | .boo,.bool _=>true
 | _,_=>false
def KC.fitsL:List KC→List Value→Bool
 | [],[]=>true
 | c :: cs,v :: vs=>c.fits v && KC.fitsL cs vs
 | _,_=>false
def KS.fits:KS→Value→Bool
 | .one c,v=>c.fits v
 | .agg cs,.agg vs=>KC.fitsL cs vs.toList
 | _,_=>false
inductive D where
 | any
 | unk
 | val (v:Value)
 | agg (cs:List D)
 | tup (vs:List D)
 | sl (x:Bool) (rows:List D)
 | own (n:Nm) (len:Nat)
 | osl (n:Nm) (k off len:Nat)
 | ptr (n:Nm) (off:Nat)
 | aptr (n:Nm) (k i j:Nat)
 | eptr (cs:List D)
 | mref (n:Nm)
 | yld (n:Nm)
 | fmap (ks:KS) (es:List (Value × D))
 | fms (ms:Array MapEntry) (clock:Nat)
 | func (fn:Fn) (first captured:List D)
 | iface (t:TypeId) (v:D)
 deriving Inhabited
def D.cells:D→List D
 | .agg cs=>cs
 | d=>[d]
def D.one:D→Bool
 | .any | .agg _ | .tup _=>false
 | .val v=>v.oneCell'
 | _=>true
inductive Ob where
 | box (t:TypeId) (cs:List D)
 | arr (t:TypeId) (k:Nat) (rows:List D)
 | map (ks:KS) (es:List (Value × D))
 | iter (ks:KS) (es:List (Value × D)) (pre:List Nat)
 | loop (rc:Loop) (env:List (Nat × D))
abbrev Sto:=List (Nm × Ob)
def get:Sto→Nm→Option Ob
 | [],_=>none
 | (m,o) :: r,n=>if m=n then some o else get r n
structure Gh where
 F:Nat→Prop
 ρ:Nm→Option Value
 top:Nat
 base:Nat
def lk:List (Nat × D)→Nat→Option D
 | [],_=>none
 | (k,d) :: r,t=>if k=t then some d else lk r t
def Born (ms:Array MapEntry) (clock:Nat):Prop:=(ms.toList.map (·.born)).Nodup∧∀ m∈ms.toList,m.born < clock
inductive V (G:Gh) (w:World):Value→D→Prop
 | any (v:Value):V G w v .any
 | unk (b:Bool):V G w (.bool b) .unk
 | val (v:Value):V G w v (.val v)
 | agg {cs:Array Value} {ds:List D}:cs.size=ds.length→(∀ (i:Nat) c d,cs[i]?=some c→ds[i]?=some d→V G w c d)→V G w (.agg cs) (.agg ds)
 | tup {cs:Array Value} {ds:List D}:cs.size=ds.length→(∀ (i:Nat) c d,cs[i]?=some c→ds[i]?=some d→V G w c d)→V G w (.tuple cs) (.tup ds)
 | nilsl (x:Bool):V G w (.slice none 0 0) (.sl x [])
 | esl (a:Addr) (x:Bool):V G w (.slice (some a) 0 0) (.sl x [])
 | sl {b off n cap:Nat} {x:Bool} {rows:List D} {k:Nat} (X:Nat→Nat→Value):n=rows.length→(x=true→cap=n)→n≤cap→G.F b →
   (∀ (i:Nat) r,rows[i]?=some r→r.cells.length=k) →
   (∀ (i:Nat) r (j:Nat) d,rows[i]?=some r→r.cells[j]?=some d→w.cell? ⟨b,off + (i * k + j),none⟩=some (X i j)) →
   (∀ (i:Nat) r (j:Nat) d,rows[i]?=some r→r.cells[j]?=some d→V G w (X i j) d)→V G w (.slice (some ⟨b,off,none⟩) n cap) (.sl x rows)
 | own {n:Nm} {a:Option Addr} {len cap:Nat}:G.ρ n=some (.slice a len cap)→V G w (.slice a len cap) (.own n len)
 | osl {n:Nm} {b k off len cap L C:Nat} {a:Addr}:G.ρ n=some (.slice (some ⟨b,0,none⟩) L C)→off + cap=C→len≤cap→(0 < cap→a=⟨b,off * k,none⟩)→V G w (.slice (some a) len cap) (.osl n k off len)
 | ptr {n:Nm} {b off:Nat}:G.ρ n=some (.pointer (some ⟨b,0,none⟩))→V G w (.pointer (some ⟨b,off,none⟩)) (.ptr n off)
 | aptr {n:Nm} {b len cap k i j:Nat}:G.ρ n=some (.slice (some ⟨b,0,none⟩) len cap)→V G w (.pointer (some ⟨b,i * k + j,none⟩)) (.aptr n k i j)
 | eptr {b off:Nat} {cs:List D} (X:Nat→Value):G.F b→(∀ (j:Nat) d,cs[j]?=some d→w.cell? ⟨b,off + j,none⟩=some (X j)) →
   (∀ (j:Nat) d,cs[j]?=some d→V G w (X j) d)→V G w (.pointer (some ⟨b,off,none⟩)) (.eptr cs)
 | mref {n:Nm} {r:Nat}:G.ρ n=some (.map (some r))→V G w (.map (some r)) (.mref n)
 | yld {n:Nm} {l:Nat}:G.ρ n=some (.pointer (some ⟨l,0,none⟩))→V G w (.func (.yield l) #[] #[]) (.yld n)
 | fmap {r:Nat} {ks:KS} {es:List (Value × D)} (ms:Array MapEntry) (clock:Nat):G.F r→w.heap[r]?=some (.map ms clock)→Born ms clock→ms.size=es.length→(∀ (i:Nat) m,ms[i]?=some m→ks.fits m.key=true) →
   (∀ (i:Nat) m e,ms[i]?=some m→es[i]?=some e→m.key=e.1)→(∀ (i:Nat) m e,ms[i]?=some m→es[i]?=some e→V G w m.val e.2)→V G w (.map (some r)) (.fmap ks es)
 | fms {r:Nat} {ms:Array MapEntry} {clock:Nat}:G.F r→w.heap[r]?=some (.map ms clock)→V G w (.map (some r)) (.fms ms clock)
 | func {fn:Fn} {first captured:Array Value} {fs cs:List D}:first.size=fs.length→captured.size=cs.length →
   (∀ (i:Nat) c d,first[i]?=some c→fs[i]?=some d→V G w c d)→(∀ (i:Nat) c d,captured[i]?=some c→cs[i]?=some d→V G w c d)→V G w (.func fn first captured) (.func fn fs cs)
 | iface {t:TypeId} {v:Value} {d:D}:V G w v d→V G w (.iface t v) (.iface t d)
theorem V.mono {G G' : Gh} {w w' : World} {v:Value} {d:D} (h:V G w v d) (hF:∀ b,G.F b→G'.F b) (hw:∀ b,G.F b→w'.heap[b]?=w.heap[b]?)
  (hρ:∀ n v,G.ρ n=some v→G'.ρ n=some v):V G' w' v d:=by
 induction h with
 | any v=>exact .any v
 | unk b=>exact .unk b
 | val v=>exact .val v
 | agg c _ ih=>exact .agg c ih
 | tup c _ ih=>exact .tup c ih
 | nilsl x=>exact .nilsl x
 | esl a x=>exact .esl a x
 | sl X c e g f k o _ ih =>
  exact .sl X c e g (hF _ f) k (fun i r j d q l=>(World.cell?_of_block (hw _ f)).trans (o i r j d q l)) ih
 | own c=>exact .own (hρ _ _ c)
 | osl c e g f=>exact .osl (hρ _ _ c) e g f
 | ptr c=>exact .ptr (hρ _ _ c)
 | aptr c=>exact .aptr (hρ _ _ c)
 | eptr X c e _ ih=>exact .eptr X (hF _ c) (fun j d l=>(World.cell?_of_block (hw _ c)).trans (e j d l)) ih
 | mref c=>exact .mref (hρ _ _ c)
 | yld c=>exact .yld (hρ _ _ c)
 | fmap u m c e p g f k _ ih=>exact .fmap u m (hF _ c) ((hw _ c).trans e) p g f k ih
 | fms c e=>exact .fms (hF _ c) ((hw _ c).trans e)
 | func c e _ _ s t=>exact .func c e s t
 | iface _ ih=>exact .iface ih
theorem V.one {G:Gh} {w:World} {v:Value} {d:D} (h:V G w v d) (h1:d.one=true):v.oneCell'=true:=by
 cases h <;> simp_all [D.one,Value.oneCell']
theorem V.of_val {G:Gh} {w:World} {v u:Value} (h:V G w v (.val u)):v=u:=by cases h; rfl
def blk:Value→Option Nat
 | .pointer (some a)=>some a.block
 | .slice (some a) _ _=>some a.block
 | .map (some r)=>some r
 | _=>none
abbrev Kp:=Nm→Option Ob
def OV (w0:World) (G:Gh) (w:World) (v:Value):Ob→Prop
 | .box t cs=>∃ b c,v=.pointer (some ⟨b,0,none⟩)∧w.heap[b]?=some (.cells c t (0,0))∧c.size=cs.length∧∀ (i:Nat) x d,c[i]?=some x→cs[i]?=some d→V G w x d
 | .arr t k rows=>∃ xs,w.ownsRow w0.heap.size t k v rows.length xs∧∀ (i:Nat) r,rows[i]?=some r→r.cells.length=k∧∀ (j:Nat) d,r.cells[j]?=some d→∃ x,xs[i * k + j]?=some x∧V G w x d
 | .map ks es=>∃ r ms clock,v=.map (some r)∧w.heap[r]?=some (.map ms clock)∧Born ms clock∧ms.size=es.length∧(∀ (i:Nat) m,ms[i]?=some m→ks.fits m.key=true) ∧
   (∀ (i:Nat) m e,ms[i]?=some m→es[i]?=some e→m.key=e.1)∧∀ (i:Nat) m e,ms[i]?=some m→es[i]?=some e→V G w m.val e.2
 | .iter ks es pre=>∃ r m ms clock seen,v=.pointer (some ⟨r,0,none⟩)∧w.heap[r]?=some (.mapIter (some m) clock seen clock)∧V G w (.map (some m)) (.fms ms clock)∧Born ms clock∧ms.size=es.length∧(∀ (i:Nat) m,ms[i]?=some m→ks.fits m.key=true) ∧
   (∀ (i:Nat) m e,ms[i]?=some m→es[i]?=some e→m.key=e.1)∧(∀ (i:Nat) m e,ms[i]?=some m→es[i]?=some e→V G w m.val e.2)∧(∀ (i:Nat) m,ms[i]?=some m→(seen.contains m.born=true↔i∈pre))∧∀ (i:Nat) m,pre.getLast?=some i→ms[i]?=some m→seen.back?=some m.born
 | .loop rc env=>∃ l,v=.pointer (some ⟨l,0,none⟩)∧w.heap[l]?=some (.loop rc)∧∀ t d,lk env t=some d→t < rc.tmps.size∧V G w (rc.tmps.getD t undef) d
structure WF (w0:World) (G:Gh) (w:World):Prop where
 below:Bel w0.heap.size w0 w
 old:∀ b,b < w0.heap.size→G.F b
 lt:∀ b,G.F b→b < w.heap.size
 nm:∀ n v,G.ρ n=some v→n.g < G.top∧∀ b,blk v=some b→w0.heap.size≤b∧b < w.heap.size
structure Objs (w0:World) (G:Gh) (w:World) (κ:Kp):Prop where
 ob:∀ n o,κ n=some o→∃ v,G.ρ n=some v∧OV w0 G w v o∧∀ b,blk v=some b→¬ G.F b
 ne:∀ n m o o' v v' b,κ n=some o→κ m=some o'→n≠m→G.ρ n=some v→G.ρ m=some v'→blk v=some b→blk v'≠some b
def Blk (G:Gh) (κ:Kp) (b:Nat):Prop:=∃ n o v,κ n=some o∧G.ρ n=some v∧blk v=some b
structure Step (R:Nm→Prop) (G:Gh) (w:World) (κ:Kp) (G' : Gh) (w' : World) (κ' : Kp):Prop where
 size:w.heap.size≤w'.heap.size
 heap:∀ b,b < w.heap.size→¬ Blk G κ b→w'.heap[b]?=w.heap[b]?
 F:∀ b,G.F b→G'.F b
 F' : ∀ b,G'.F b→G.F b∨w.heap.size≤b∨Blk G κ b
 ρ:∀ n v,G.ρ n=some v→G'.ρ n=some v
 ρ' : ∀ n,n.g < G.top→G.ρ n=none→¬ R n→G'.ρ n=none
 top:G.top≤G'.top
 blk' : ∀ b,Blk G' κ' b→w.heap.size≤b∨Blk G κ b
 dom:∀ n,κ' n≠none→κ n≠none∨G.ρ n=none
 base:G'.base=G.base
theorem Step.refl (R:Nm→Prop) (G:Gh) (w:World) (κ:Kp):Step R G w κ G w κ :=
 ⟨ec _,fun _ _ _=>rfl,fun _ h=>h,fun _ h=>.inl h,fun _ _ h=>h,fun _ _ h _=>h,ec _,fun _ h=>.inr h,fun _ h=>.inl h,rfl⟩
theorem Step.trans {R:Nm→Prop} {G1 G2 G3:Gh} {w1 w2 w3:World} {κ1 κ2 κ3:Kp} (h:Step R G1 w1 κ1 G2 w2 κ2) (k:Step R G2 w2 κ2 G3 w3 κ3):Step R G1 w1 κ1 G3 w3 κ3 where
 size:=ef h.size k.size
 heap b hb hn:=(k.heap b (eV hb h.size) fun hk=>(h.blk' b hk).elim (fun _=>absurd hb (by omega)) hn).trans (h.heap b hb hn)
 F b hb:=k.F b (h.F b hb)
 F' b hb:=by
  rcases k.F' b hb with a | a | a
  ·exact h.F' b a
  ·exact .inr (.inl (ef h.size a))
  ·exact .inr (h.blk' b a)
 ρ n v hv:=k.ρ n v (h.ρ n v hv)
 ρ' n a h2 h3:=k.ρ' n (eV a h.top) (h.ρ' n a h2 h3) h3
 top:=ef h.top k.top
 blk' b hb:=by
  rcases k.blk' b hb with a | a
  ·exact .inl (ef h.size a)
  ·exact h.blk' b a
 dom n hn:=by
  rcases k.dom n hn with a | a
  ·exact h.dom n a
  ·refine .inr ?_;cases c:G1.ρ n with
   | none=>rfl
   | some v=>rw[h.ρ n v c] at a; cases a
 base:=k.base.trans h.base
theorem Step.weaken {R R' : Nm→Prop} {G G' : Gh} {w w' : World} {κ κ' : Kp} (h:Step R G w κ G' w' κ') (hR:∀ n,n.g < G.top→R n→R' n):Step R' G w κ G' w' κ' :=
 { h with ρ':=fun n h1 h2 h3=>h.ρ' n h1 h2 fun h4=>h3 (hR n h1 h4) }
theorem Step.keeps {R:Nm→Prop} {w0:World} {G G' : Gh} {w w' : World} {κ κ' : Kp} (h:Step R G w κ G' w' κ') (hw:WF w0 G w) (ho:Objs w0 G w κ) (b:Nat) (hb:G.F b):w'.heap[b]?=w.heap[b]? :=
 h.heap b (hw.lt b hb) fun ⟨n,o,v,h1,h2,h3⟩=>by
  obtain ⟨v',hv',_,hF⟩:=ho.ob n o h1;rw[h2] at hv'; cases hv';exact hF b h3 hb
theorem V.step {R:Nm→Prop} {w0:World} {G G' : Gh} {w w' : World} {κ κ' : Kp} {v:Value} {d:D} (h:V G w v d) (hs:Step R G w κ G' w' κ') (hw:WF w0 G w) (ho:Objs w0 G w κ):V G' w' v d :=
 h.mono hs.F (hs.keeps hw ho) hs.ρ
theorem OV.mono {w0:World} {G G' : Gh} {w w' : World} {v:Value} {o:Ob} (h:OV w0 G w v o) (hV:∀ x d,V G w x d→V G' w' x d) (hb:∀ b,blk v=some b→w'.heap[b]?=w.heap[b]?):OV w0 G' w' v o:=by
 cases o with
 | box t O =>
  obtain ⟨b,c,rfl,f,a,n⟩:=h;exact ⟨b,c,rfl,(hb b rfl).trans f,a,fun i x d A u=>hV _ _ (n i x d A u)⟩
 | arr t k Q =>
  obtain ⟨N,f,a⟩:=h;refine ⟨N,⟨f.1,?_⟩,fun i r C=>⟨(a i r C).1,fun j d u=>let ⟨x,A,hv⟩:=(a i r C).2 j d u; ⟨x,A,hV _ _ hv⟩⟩⟩;rcases f.2 with h | ⟨g,E,F,rfl,K,L,r⟩
  ·exact .inl h
  ·exact .inr ⟨g,E,F,rfl,K,(hb g rfl).trans L,r⟩
 | map M H =>
  obtain ⟨r,B,p,rfl,f,h0,a,n,q,s⟩:=h;exact ⟨r,B,p,rfl,(hb r rfl).trans f,h0,a,n,q,fun i m e z y=>hV _ _ (s i m e z y)⟩
 | iter M H pre =>
  obtain ⟨r,m,B,p,seen,rfl,f,a,h0,n,q,s,I,J⟩:=h;exact ⟨r,m,B,p,seen,rfl,(hb r rfl).trans f,hV _ _ a,h0,n,q,s,fun i m e z y=>hV _ _ (I i m e z y),J⟩
 | loop P env =>
  obtain ⟨l,rfl,f,a⟩:=h;exact ⟨l,rfl,(hb l rfl).trans f,fun t d D=>⟨(a t d D).1,hV _ _ (a t d D).2⟩⟩
theorem OV.lt {w0:World} {G:Gh} {w:World} {v:Value} {o:Ob} (h:OV w0 G w v o):∀ b,blk v=some b→b < w.heap.size:=by
 intro b d;cases o with
 | box t q =>
  obtain ⟨n,c,rfl,a,_⟩:=h;simp[blk] at d; subst d;exact (fa.1 a).1
 | arr t k x =>
  obtain ⟨y,a,_⟩:=h;refine (a.lt b ?_).2;rcases a.2 with ⟨rfl,_⟩ | ⟨g,p,s,rfl,_⟩
  ·simp[blk] at d
  ·simpa [blk,Value.ownBlock] using d
 | map i f =>
  obtain ⟨r,j,e,rfl,a,_⟩:=h;simp[blk] at d; subst d;exact (fa.1 a).1
 | iter i f pre =>
  obtain ⟨r,m,j,e,seen,rfl,a,_⟩:=h;simp[blk] at d; subst d;exact (fa.1 a).1
 | loop u env =>
  obtain ⟨l,rfl,a,_⟩:=h;simp[blk] at d; subst d;exact (fa.1 a).1
def Marks (G:Gh) (w:World) (ds:List Deferred):Prop :=
 G.base≤w.heap.size∧∃ Ds:List Nat,ds=Ds.map (fun b=>{ target:=.collected b,args:=#[] })∧Ds.Nodup∧∀ b∈Ds,G.F b∧G.base≤b∧w.heap[b]?=some (.deferred (some []))
theorem Marks.nil {G:Gh} {w:World} (hb:G.base≤w.heap.size):Marks G w []:=⟨hb,[],rfl,iu,fun _ h=>by cases h⟩
theorem Marks.mono {G G' : Gh} {w w' : World} {ds:List Deferred} (h:Marks G w ds) (hsz:w.heap.size≤w'.heap.size) (hF:∀ b,G.F b→G'.F b) (hb:G'.base=G.base) (hw:∀ b,G.F b→w'.heap[b]?=w.heap[b]?):Marks G' w' ds :=
 let ⟨h0,Ds,h1,h2,h3⟩:=h
 ⟨by rw[hb]; exact ef h0 hsz,Ds,h1,h2,fun b hm=>let ⟨k1,k2,k3⟩:=h3 b hm; ⟨hF b k1,hb ▸ k2,(hw b k1).trans k3⟩⟩
theorem Marks.step {R:Nm→Prop} {w0:World} {G G' : Gh} {w w' : World} {κ κ' : Kp} {ds:List Deferred} (h:Marks G w ds) (hs:Step R G w κ G' w' κ') (hw:WF w0 G w) (ho:Objs w0 G w κ):Marks G' w' ds :=
 h.mono hs.size hs.F hs.base (hs.keeps hw ho)
theorem Objs.sub {w0:World} {G:Gh} {w:World} {κ κ' : Kp} (h:Objs w0 G w κ) (hs:∀ n o,κ' n=some o→κ n=some o):Objs w0 G w κ' :=
 ⟨fun n o hn=>h.ob n o (hs n o hn),fun n m o o' v v' b h1 h2=>h.ne n m o o' v v' b (hs _ _ h1) (hs _ _ h2)⟩
def Kp.or (κ τ:Kp):Kp:=fun n=>(κ n).or (τ n)
theorem frame {w0:World} {R:Nm→Prop} {G G' : Gh} {w w' : World} {κs κs' κ τ:Kp} (hw:WF w0 G w) (hall:Objs w0 G w κ)
  (hsub:∀ n o,κs n=some o→κ n=some o) (hτ:∀ n o,τ n=some o→κ n=some o∧κs n=none) 
  (hs:Step R G w κs G' w' κs') (ho:Objs w0 G' w' κs'):Objs w0 G' w' (Kp.or κs' τ)∧Step R G w κ G' w' (Kp.or κs' τ):=by
 have P:Objs w0 G w κs:=hall.sub hsub;have I:∀ b,Blk G κs b→Blk G κ b:=fun b ⟨n,o,v,d,g,f⟩=>⟨n,o,v,hsub n o d,g,f⟩
 -- a block of τ is no block of κs,and stays
 have key:∀ n o v b,τ n=some o→G.ρ n=some v→blk v=some b→¬ Blk G κs b:=by
  intro n o v b i t c ⟨m,j,z,d,g,f⟩;obtain ⟨l,J⟩:=hτ n o i;have D:m≠n:=fun e=>by subst e; rw[d] at J; cases J
  exact hall.ne m n j o z v b (hsub m j d) l D g t f c
 have keep:∀ n o,τ n=some o→∃ v,G.ρ n=some v∧G'.ρ n=some v∧OV w0 G' w' v o∧(∀ b,blk v=some b→b < w.heap.size∧¬ G'.F b∧¬ Blk G κs b):=by
  intro n o i;obtain ⟨l,J⟩:=hτ n o i;obtain ⟨v,t,E,N⟩:=hall.ob n o l;have c:∀ b,blk v=some b→b < w.heap.size∧¬ G'.F b∧¬ Blk G κs b:=fun b c=>by
   have L:=key n o v b i t c;have O:=E.lt b c;refine ⟨O,fun h=>?_,L⟩;rcases hs.F' b h with d | d | d
   ·exact N b c d
   ·omega
   ·exact L d
  exact ⟨v,t,hs.ρ n v t,E.mono (fun x _ H=>H.step hs hw P) fun b C=>hs.heap b (c b C).1 (c b C).2.2,c⟩
 have K:∀ n o v b,κs' n=some o→G'.ρ n=some v→blk v=some b→w.heap.size≤b∨Blk G κs b:=fun n o v b d g f=>hs.blk' b ⟨n,o,v,d,g,f⟩;have split:∀ n o,Kp.or κs' τ n=some o→κs' n=some o∨τ n=some o:=by
  intro n o h;unfold Kp.or at h;cases l:κs' n with
  | none=>rw[l] at h; exact .inr (by simpa using h)
  | some x=>rw[l] at h; exact .inl (by simpa using h)
 refine ⟨⟨fun n o i=>?_,fun n m o j v z b d g D f q A B=>?_⟩,?_⟩
 ·rcases split n o i with h | h
  ·exact ho.ob n o h
  ·obtain ⟨v,_,T,E,c⟩:=keep n o h;exact ⟨v,T,E,fun b C=>(c b C).2.1⟩
 ·rcases split n o d with r | r <;> rcases split m j g with k2 | k2
  ·exact ho.ne n m o j v z b r k2 D f q A B
  ·obtain ⟨u,s,p,_,c⟩:=keep m j k2;rw[p] at q; cases q;have:=c b B;rcases K n o v b r f A with h | h
   ·omega
   ·exact this.2.2 h
  ·obtain ⟨u,s,p,_,c⟩:=keep n o r;rw[p] at f; cases f;have:=c b A;rcases K m j z b k2 q B with h | h
   ·omega
   ·exact this.2.2 h
  ·obtain ⟨u,s,p,_,_⟩:=keep n o r;obtain ⟨U,Q,S,_,_⟩:=keep m j k2;rw[p] at f; cases f;rw[S] at q; cases q;exact hall.ne n m o j v z b (hτ n o r).1 (hτ m j k2).1 D s Q A B
 ·refine ⟨hs.size,fun b c i=>hs.heap b c fun h=>i (I b h),hs.F,fun b c=>?_,hs.ρ,hs.ρ',hs.top,fun b ⟨n,o,v,d,g,f⟩=>?_,fun n i=>?_,hs.base⟩
  ·rcases hs.F' b c with h | h | h
   ·exact .inl h
   ·exact .inr (.inl h)
   ·exact .inr (.inr (I b h))
  ·rcases split n o d with k | k
   ·rcases K n o v b k g f with h | h
    ·exact .inl h
    ·exact .inr (I b h)
   ·obtain ⟨u,s,p,_,_⟩:=keep n o k;rw[p] at g; cases g;exact .inr ⟨n,o,_,(hτ n o k).1,s,f⟩
  ·cases l:κs' n with
   | none =>
    have:τ n≠none:=fun h=>i (by unfold Kp.or; rw[l,h]; rfl);cases M:τ n with
    | none=>exact absurd M this
    | some o=>exact .inl (by rw[(hτ n o M).1]; simp)
   | some o =>
    rcases hs.dom n (by rw[l]; simp) with h | h
    ·cases H:κs n with
     | none=>exact absurd H h
     | some y=>exact .inl (by rw[hsub n y H]; simp)
    ·exact .inr h
theorem Dv (w:World) (o:Obj):(w.alloc o).heap[w.heap.size]?=some o:=World.alloc_heap_new w o
theorem Dw (w:World) (o:Obj) (b:Nat) (h:b < w.heap.size):(w.alloc o).heap[b]?=w.heap[b]?:=Below.heap_alloc w o b h
def Fr (r:Option Nat):Fence:={ Fence.wide with round:=r }
theorem Fi (r:Option Nat) (f:FuncId):(Fr r).fn f:=trivial
theorem Kw (r:Option Nat) (n:Nat):(Fr r).depth.isSome=true→1≤n:=fun h=>by simp[Fr,Fence.wide] at h
def JO (o:Oper):Bool:=match o.op with
 | .defer _=>false
 | _=>true
theorem LJ {o:Oper} (h:JO o=true):∀ c,o.op≠.defer c:=fun c e=>by simp[JO,e] at h
section
variable {P:Program} {r:Option Nat} {n:Nat}
theorem OQ {f:FuncId} {args:Array Value} {w:World} {R:Ending→World→Prop}:CallsIn (Fr r) n P f args w R↔Calls P f args w R:=callsIn_wide (n:=n)
theorem WZ {row:String} {args:Array Value} {w:World} {R:Value→World→Prop} (h:Rows P row args w R):RowsIn (Fr r) n P row args w R :=
 fun c cs _=>let ⟨v,w',h1,h2⟩:=h c cs; ⟨v,w',h1,stepsIn_wide.2 h2⟩
theorem VZ {o:Oper} {a:Act} {w:World} {K:Act→World→Prop} {Q:Exit→Act→World→Prop} (hp:JO o=true) (h:o.wp P a w K Q):o.wpIn (Fr r) n P a w K Q:=by
 refine ⟨fun f _=>Fi r f,?_⟩;rw[Oper.semAt_eq _ _ _ (LJ hp)];unfold Oper.wp at h;generalize (execOp a.eval o).run P w=x at h;cases x with
 | ok x b =>
  cases x with
  | value v=>exact h
  | skip=>exact h
  | defer d=>exact h
  | enter f args=>exact ⟨Kw r n,OQ.2 h⟩
  | row row args=>exact ⟨Kw r n,WZ h⟩
  | _=>exact h.elim
 | halt x b =>
  cases x with
  | panic v=>exact h
  | _=>exact h.elim
theorem Kx {o:Oper} {ρ:Operand→Value} {w w' : World} {x:Next} (h:(execOp ρ o).run P w=.ok x w') (hx:∀ d,x≠.defer d):JO o=true:=by
 unfold JO;split
 ·rename_i c a;exfalso;simp only[execOp,a,Sem.run_bind] at h;generalize (resolve ρ c o.type).run P w=y at h;cases y with
  | ok d b =>
   simp only[Result.andThen_ok,Sem.run_pure,Result.ok.injEq] at h;exact hx d h.1.symm
  | halt _ _=>simp[Result.andThen] at h
 ·rfl
variable {o:Oper} {a:Act} {w w' : World} {K:Act→World→Prop} {Q:Exit→Act→World→Prop}
theorem FQ {v:Value} (h:(execOp a.eval o).run P w=.ok (.value v) w') (hK:K (a.put o.dst v) w'):∀ r,o.wpIn (Fr r) n P a w K Q :=
 fun _=>VZ (Kx h (fun _ e=>by cases e)) (by unfold Oper.wp; rw[h]; exact hK)
theorem Qd (h:(execOp a.eval o).run P w=.ok .skip w') (hK:K (a.put o.dst undef) w'):∀ r,o.wpIn (Fr r) n P a w K Q :=
 fun _=>VZ (Kx h (fun _ e=>by cases e)) (by unfold Oper.wp; rw[h]; exact hK)
theorem Sx {f:FuncId} {args:Array Value} (h:(execOp a.eval o).run P w=.ok (.enter f args) w') (hK:Calls P f args w' fun
   | .returned v,w''=>K (a.put o.dst v) w''
   | .panicked chain,w''=>Q (.panic chain) a w''
   | .outgrown,_=>LetsOut Q):∀ r,o.wpIn (Fr r) n P a w K Q :=
 fun _=>VZ (Kx h (fun _ e=>by cases e)) (by unfold Oper.wp; rw[h]; exact hK)
end
structure Ctx where
 P:Program
 A:World→Prop
 glob:Nat→D
 hglob:∀ w0,A w0→∀ G w,WF w0 G w→∀ g,V G w (.pointer (some ⟨g,0,none⟩)) (glob g)
 mixed:P.follows .mixedOrders=true
 rd:Bool:=false
def Ctx.rnd (E:Ctx):Ctx:={ E with rd:=true }
def Rd (E:Ctx) (r:Option Nat):Prop:=E.rd=false→r=none
structure St where
 env:List (Nat × D)
 σ:Sto
def ofV:Value→D
 | .agg cs=>.agg (cs.toList.map .val)
 | v=>.val v
def ev (E:Ctx) (env:List (Nat × D)):Operand→D
 | .tmp t=>(lk env t).getD .any
 | .const v=>ofV v
 | .global g=>E.glob g
 | .func f=>.func (.func f) [] []
theorem V.ofV (G:Gh) (w:World) (v:Value):V G w v (ofV v):=by
 cases v with
 | agg d =>
  refine .agg (by simp) fun _ c _ b a=>?_;simp only[eK,fk,b,eH,Option.some.injEq] at a;subst a;exact .val c
 | _=>exact .val _
structure Rel (w0:World) (G:Gh) (w:World) (a:Act) (st:St):Prop where
 wf:WF w0 G w
 env:∀ t d,lk st.env t=some d→t < a.tmps.size∧V G w (a.tmps.getD t undef) d
 objs:Objs w0 G w (get st.σ)
 defers:Marks G w a.defers
theorem Rel.ev {E:Ctx} {w0:World} (hA:E.A w0) {G:Gh} {w:World} {a:Act} {st:St} (h:Rel w0 G w a st) (x:Operand):V G w (a.eval x) (ev E st.env x):=by
 cases x with
 | tmp t =>
  simp only[Act.eval,Ab.ev];cases b:lk st.env t with
  | none=>exact .any _
  | some d=>exact (h.env t d b).2
 | const v=>exact V.ofV G w v
 | global g=>exact E.hglob w0 hA G w h.wf g
 | func f=>exact .func rfl rfl (by simp) (by simp)
def post (w0:World) (N:Nat) (R:Nm→Prop) (G:Gh) (w:World) (σ:Sto) (Q:Exit→St→Prop):Exit→Act→World→Prop :=
 fun e a' w'=>∃ G' st',a'.tmps.size=N∧Rel w0 G' w' a' st'∧Step R G w (get σ) G' w' (get st'.σ)∧Q e st'
def no:Nm→Prop:=fun _=>False
def AWp (E:Ctx) (N:Nat) (c:Code) (Q:Exit→St→Prop) (st:St):Prop :=
 ∀ w0,E.A w0→∀ G w a,a.tmps.size=N→Rel w0 G w a st→∀ r,Rd E r→c.wpIn (Fr r) 0 E.P (post w0 N no G w st.σ Q) a w
def F1 (K:St→Prop) (Q:Exit→St→Prop):Exit→St→Prop
 | .normal,st=>K st
 | e,st=>Q e st
def Sy (id:Nat) (Q:Exit→St→Prop):Exit→St→Prop
 | .exit id',st=>if id'=id then Q .normal st else Q (.exit id') st
 | e,st=>Q e st
section
variable {E:Ctx} {N:Nat} {Q:Exit→St→Prop} {st:St}
theorem AWp.mono {c:Code} {Q' : Exit→St→Prop} (h:AWp E N c Q st) (hq:∀ e s,Q e s→Q' e s):AWp E N c Q' st :=
 fun w0 hA G w a hN hr r hd=>wpIn_mono (h w0 hA G w a hN hr r hd) fun _ _ _ ⟨G',st',h1,h2,h3,h4⟩=>⟨G',st',h1,h2,h3,hq _ _ h4⟩
theorem Ae (h:Q .normal st):AWp E N .skip Q st :=
 fun _ _ G _ _ hN hr _ _=>wpIn_skip ⟨G,st,hN,hr,.refl _ _ _ _,h⟩
theorem Ah (h:Q .ret st):AWp E N .ret Q st :=
 fun _ _ G _ _ hN hr _ _=>wpIn_ret ⟨G,st,hN,hr,.refl _ _ _ _,h⟩
theorem Aq {id:Nat} (h:Q (.exit id) st):AWp E N (.exit id) Q st :=
 fun _ _ G _ _ hN hr _ _=>wpIn_exit ⟨G,st,hN,hr,.refl _ _ _ _,h⟩
theorem aak {x y:Code} (h:AWp E N x (F1 (AWp E N y Q) Q) st):AWp E N (.seq x y) Q st:=by
 intro k i G w a n o r j;refine wpIn_seq (wpIn_mono (h k i G w a n o r j) ?_);rintro e m z ⟨b,v,c,d,f,g⟩;cases e with
 | normal =>
  exact wpIn_mono (g k i b z m c d r j) fun _ _ _ ⟨l,u,p,q,s,t⟩=>⟨l,u,p,q,f.trans s,t⟩
 | _=>exact ⟨b,v,c,d,f,g⟩
theorem W0 {x y:Code} (h:∀ K:St→Prop,(∀ s,AWp E N y Q s→K s)→AWp E N x (F1 K Q) st):AWp E N (.seq x y) Q st :=
 aak (h _ fun _ h=>h)
theorem Sz {c:Operand} {x y:Code} {b:Bool} (hc:ev E st.env c=.val (.bool b)) (h:AWp E N (if b then x else y) Q st):AWp E N (.cond c x y) Q st:=by
 intro j d G w a g e r i;have f:=e.ev d c;rw[hc] at f;exact wpIn_cond (V.of_val f) (h j d G w a g e r i)
theorem aal {c:Operand} {x y:Code} (hc:ev E st.env c=.unk) (h1:AWp E N x Q st) (h2:AWp E N y Q st):AWp E N (.cond c x y) Q st:=by
 intro i d G w a g e r h;have f:=e.ev d c;rw[hc] at f;generalize j:a.eval c=u at f;cases f with
 | unk b =>
  refine wpIn_cond j ?_;cases b with
  | true=>exact h1 i d G w a g e r h
  | false=>exact h2 i d G w a g e r h
theorem Ai {id:Nat} {c:Code} (h:AWp E N c (Sy id Q) st):AWp E N (.block id c) Q st:=by
 intro p l G w a m o r n;refine wpIn_block (wpIn_mono (h p l G w a m o r n) ?_);rintro e q t ⟨d,k,f,g,i,b⟩;cases e with
 | exit s =>
  simp only[Sy] at b;simp only[Exit.inBlock];split
  ·rename_i j; rw[if_pos j] at b; exact ⟨d,k,f,g,i,b⟩
  ·rename_i j; rw[if_neg j] at b; exact ⟨d,k,f,g,i,b⟩
 | _=>exact ⟨d,k,f,g,i,b⟩
theorem Ay {c:Code} (I:Nat→St→Prop) (n:Nat) (h0:I n st) (round:∀ n s,I n s→AWp E N c (F1 (fun s'=>∃ m,m < n∧I m s') Q) s):AWp E N (.loop c) Q st:=by
 intro F L G w a R W H Y b k B Z C D;have key:∀ n y v t u,I n u→t.tmps.size=N→Rel F y v t u→Step no G w (get st.σ) y v (get u.σ) →
   ∃ e z A,post F N no G w st.σ Q e z A∧ArrivesIn (Machine.fenced E.P (Fr H)) E.P (lone (b.atR t (.code c :: .inLoop c :: k)) B v) b k B e z A:=by
  intro n;induction n using Nat.strongRecOn with
  | _ n ih =>
   intro y v t u M S X o;obtain ⟨e,h,r,⟨g,q,i,j,p,f⟩,d⟩:=round n u M F L y v t S X H Y b (.inLoop c :: k) B Z C D;cases e with
   | normal =>
    obtain ⟨m,U,O⟩:=f;obtain ⟨K,J,w3,V,T⟩:=ih m U g r h q O i j (o.trans p);exact ⟨K,J,w3,V,.of_steps (StepsIn.trans d (.one (fenced_calm C D rfl) stepR_inLoop)) T⟩
   | exit id=>exact ⟨_,h,r,⟨g,q,i,j,o.trans p,f⟩,.pass (x:=.inLoop c) rfl (fun _ _=>.inl (by simp)) d⟩
   | goto l=>exact ⟨_,h,r,⟨g,q,i,j,o.trans p,f⟩,.pass (x:=.inLoop c) rfl (fun _ _=>.inl (by simp)) d⟩
   | ret=>exact ⟨_,h,r,⟨g,q,i,j,o.trans p,f⟩,.pass (x:=.inLoop c) rfl (fun _ _=>.inl (by simp)) d⟩
   | panic ch=>exact ⟨_,h,r,⟨g,q,i,j,o.trans p,f⟩,.pass (x:=.inLoop c) rfl (fun _ _=>.inl (by simp)) d⟩
   | outgrown=>exact ⟨_,h,r,⟨g,q,i,j,o.trans p,f⟩,.pass (x:=.inLoop c) rfl (fun _ _=>.inl (by simp)) d⟩
 obtain ⟨e,z,A,f,d⟩:=key n G w a st h0 R W (.refl _ _ _ _);exact ⟨e,z,A,f,.of_steps (.one (fenced_calm C D rfl) stepR_loop) d⟩
def Sees (E:Ctx) (st:St) (K:St→Prop):Prop :=
 ∀ w0,E.A w0→∀ G w a,Rel w0 G w a st→∃ G' st',Rel w0 G' w a st'∧Step no G w (get st.σ) G' w (get st'.σ)∧K st'
theorem Sees.awp {c:Code} (h:Sees E st (AWp E N c Q)):AWp E N c Q st:=by
 intro d b G w a k m r l;obtain ⟨e,t,g,i,j⟩:=h d b G w a m;exact wpIn_mono (j d b e w a k g r l) fun _ _ _ ⟨f,s,n,o,p,q⟩=>⟨f,s,n,o,i.trans p,q⟩
theorem AWp.after {c:Code} {Q' : Exit→St→Prop} (h:AWp E N c Q st) (hq:∀ e s,Q e s→Sees E s (Q' e)):AWp E N c Q' st:=by
 intro d b G w a n p r o;refine wpIn_mono (h d b G w a n p r o) fun e i y ⟨f,x,j,k,l,m⟩=>?_;obtain ⟨g,v,q,t,u⟩:=hq e x m d b f y i k;exact ⟨g,v,j,q,l.trans t,u⟩
theorem Sees.of {K:St→Prop} (h:K st):Sees E st K:=fun _ _ G _ _ hr=>⟨G,st,hr,.refl _ _ _ _,h⟩
theorem Sees.mono {K K' : St→Prop} (h:Sees E st K) (hk:∀ s,K s→K' s):Sees E st K' :=
 fun w0 hA G w a hr=>let ⟨G',s',h1,h2,h3⟩:=h w0 hA G w a hr; ⟨G',s',h1,h2,hk _ h3⟩
theorem Sees.trans {K K' : St→Prop} (h:Sees E st K) (hk:∀ s,K s→Sees E s K'):Sees E st K':=fun w0 hA G w a hr =>
 let ⟨G1,s1,h1,h2,h3⟩:=h w0 hA G w a hr
 let ⟨G2,s2,k1,k2,k3⟩:=hk s1 h3 w0 hA G1 w a h1
 ⟨G2,s2,k1,h2.trans k2,k3⟩
def Le (st' st:St):Prop:=(∀ p∈st'.env,lk st.env p.1=some p.2)∧(∀ p∈st'.σ,get st.σ p.1=some p.2)
theorem QQ {l:List (Nat × D)} {t:Nat} {d:D} (h:lk l t=some d):(t,d)∈l:=by
 induction l with
 | nil=>simp[lk] at h
 | cons p r ih =>
  obtain ⟨k,x⟩:=p;simp only[lk] at h;split at h
  ·rename_i a; subst a; cases h; exact dY
  ·exact ea _ (ih h)
theorem AQ {l:Sto} {n:Nm} {o:Ob} (h:get l n=some o):(n,o)∈l:=by
 induction l with
 | nil=>simp[get] at h
 | cons p r ih =>
  obtain ⟨k,x⟩:=p;simp only[get] at h;split at h
  ·rename_i a; subst a; cases h; exact dY
  ·exact ea _ (ih h)
theorem Step.drop {R:Nm→Prop} {G:Gh} {w:World} {κ κ' : Kp} (hs:∀ n o,κ' n=some o→κ n=some o):Step R G w κ G w κ' :=
 { Step.refl R G w κ with
  blk':=fun b ⟨n,o,v,h1,h2,h3⟩=>.inr ⟨n,o,v,hs n o h1,h2,h3⟩
  dom:=fun n hn=>by
   cases hk:κ' n with
   | none=>exact absurd hk hn
   | some o=>exact .inl (by rw[hs n o hk]; simp) }
theorem Sees.keep {K:St→Prop} {st' : St} (h:Le st' st) (hk:K st'):Sees E st K:=by
 intro g _ G w a b;have c:∀ n o,get st'.σ n=some o→get st.σ n=some o:=fun n o e=>h.2 (n,o) (AQ e);exact ⟨G,st',⟨b.wf,fun t d f=>b.env t d (h.1 (t,d) (QQ f)),b.objs.sub c,b.defers⟩,.drop c,hk⟩
end
def szOf (P:Program) (t:TypeId):Option Nat:=(P.info? t).map (·.size)
def Vd:TypeDesc→Bool
 | .struct _ | .array _ _=>true
 | _=>false
def AS (P:Program) (t:TypeId):Option Bool:=(P.underlying t).map Vd
def AL (P:Program) (t:TypeId):Option Value:=(P.info? t).bind (·.zero)
def AR (P:Program) (t:TypeId) (i:Nat):Option (Nat × TypeId) :=
 match P.underlying t with
 | some (.struct fs)=>(fs[i]?).map fun f=>(f.offset,f.type)
 | _=>none
def AM (P:Program) (t:TypeId):Option TypeId :=
 match P.underlying t with
 | some (.slice e)=>some e
 | _=>none
def V0 (P:Program) (t:TypeId):Option (Nat × TypeId) :=
 match P.underlying t with
 | some (.array n e)=>some (n,e)
 | _=>none
def Hk (P:Program) (t:TypeId):Bool:=match P.underlying t with | some .string=>true | _=>false
def AV (P:Program) (t:TypeId):Bool:=match P.underlying t with | some (.interface _)=>true | none=>true | _=>false
def Fo (P:Program) (t:TypeId):Option IntKind:=match P.underlying t with | some (.int k)=>some k | _=>none
def acQ (P:Program) (t:TypeId):Option Nat :=
 match P.underlying t with
 | some (.pointer a)=>match P.underlying a with | some (.array n _)=>some n | _=>none
 | _=>none
def cut (P:Program) (t:TypeId) (cs:List D):Option D :=
 match AS P t with
 | some true=>match szOf P t with
  | some k=>if k≤cs.length then some (.agg (cs.take k)) else none
  | none=>none
 | some false=>cs.head?
 | none=>none
def HR (P:Program) (κ:Kp) (t:TypeId):D→Option D
 | .ptr n off=>match κ n with
  | some (.box _ cs)=>cut P t (cs.drop off)
  | _=>none
 | .aptr n k i j=>match κ n with
  | some (.arr _ k' rows)=>if k'=k then (rows[i]?).bind fun r=>cut P t (r.cells.drop j) else none
  | _=>none
 | .eptr cs=>cut P t cs
 | _=>none
def nilD:D→Option D
 | .ptr n o=>some (.ptr n o)
 | .aptr n k i j=>some (.aptr n k i j)
 | .eptr cs=>some (.eptr cs)
 | .func (.func f) a b=>some (.func (.func f) a b)
 | _=>none
def intD (op:BinOp) (k:IntKind) (a b:Int):Option Value :=
 match op with
 | .add=>some (.int k (k.wrap (a + b)))
 | .sub=>some (.int k (k.wrap (a - b)))
 | .mul=>some (.int k (k.wrap (a * b)))
 | .quo=>if b=0 then none else some (.int k (k.wrap (a.tdiv b)))
 | .rem=>if b=0 then none else some (.int k (a.tmod b))
 | .eql=>some (.bool (decide (a=b)))
 | .neq=>some (.bool (!decide (a=b)))
 | .lss=>some (.bool (decide (a < b)))
 | .leq=>some (.bool (decide (a≤b)))
 | .gtr=>some (.bool (decide (b < a)))
 | .geq=>some (.bool (decide (b≤a)))
 | _=>none
def strD (op:BinOp) (a b:ByteArray):Option Value :=
 match op with
 | .add=>if a.size + b.size≤9223372036854775807 then some (.string (a++b)) else none
 | .eql=>some (.bool (decide (a=b)))
 | .neq=>some (.bool (!decide (a=b)))
 | .lss=>some (.bool (Op.bytesLess a.toList b.toList))
 | .gtr=>some (.bool (!(Op.bytesLess a.toList b.toList || decide (a=b))))
 | .geq=>some (.bool (!(Op.bytesLess a.toList b.toList)))
 | _=>none
def Qe (P:Program) (t:TypeId):Bool:=match P.underlying t with | some .bool=>true | _=>false
def Gs (P:Program) (t:TypeId):Bool:=match P.underlying t with | some (.pointer _)=>true | _=>false
def LK (P:Program) (t:TypeId):Bool:=match P.underlying t with | some (.map _ _)=>true | _=>false
def eqR (op:BinOp) (b:Bool):Option Value :=
 match op with
 | .eql=>some (.bool b)
 | .neq=>some (.bool (!b))
 | _=>none
def OR (P:Program) (t:TypeId) (op:BinOp) (a b:Bool):Option Value:=if Qe P t then eqR op (decide (a=b)) else none
def ptrD (P:Program) (t:TypeId) (op:BinOp) (a b:Option Addr):Option Value :=
 match b with
 | none=>if Gs P t then eqR op a.isNone else none
 | _=>none
def binD (P:Program) (t:TypeId) (op:BinOp):D→D→Option D
 | .val (.int k a),.val (.int k' b)=>if k=k' then (intD op k a b).map .val else none
 | .val (.string a),.val (.string b)=>(strD op a b).map .val
 | .val (.bool a),.val (.bool b)=>(OR P t op a b).map .val
 | .val (.pointer a),.val (.pointer b)=>(ptrD P t op a b).map .val
 | .sl _ rows,.val (.slice none 0 0)=>match AM P t,eqR op false with
  | some _,some r=>match rows with
   | []=>some .unk
   | _ :: _=>some (.val r)
  | _,_=>none
 | .val (.slice none _ _),.val (.slice none 0 0)=>match AM P t with
  | some _=>(eqR op true).map .val
  | none=>none
 | .ptr _ _,.val (.pointer none)=>if Gs P t then (eqR op false).map .val else none
 | .eptr _,.val (.pointer none)=>if Gs P t then (eqR op false).map .val else none
 | .aptr _ _ _ _,.val (.pointer none)=>if Gs P t then (eqR op false).map .val else none
 | .mref _,.val (.map none)=>if LK P t then (eqR op false).map .val else none
 | .fmap _ _,.val (.map none)=>if LK P t then (eqR op false).map .val else none
 | .val (.map none),.val (.map none)=>if LK P t then (eqR op true).map .val else none
 | _,_=>none
def unD (op:UnOp):D→Option D
 | .unk=>match op with
  | .not=>some .unk
  | _=>none
 | .val (.bool b)=>match op with
  | .not=>some (.val (.bool (!b)))
  | _=>none
 | .val (.int k n)=>match op with
  | .neg=>some (.val (.int k (k.wrap (0 - n))))
  | _=>none
 | _=>none
def Iv (P:Program) (t:TypeId):Bool:=match P.underlying t with
 | some (.slice e)=>match P.underlying e with | some (.int .u8)=>true | _=>false
 | _=>false
def Gt:List D→Option (List Int)
 | []=>some []
 | .val (.int .u8 n) :: r=>(Gt r).map (n :: ·)
 | _=>none
def hasT (P:Program) (t:TypeId):Bool:=(P.underlying t).isSome
def So (P:Program) (s d:TypeId):D→Option D
 | .sl _ rows=>if Iv P s=true∧Hk P d=true then (Gt rows).map fun ns=>.val (.string (strOfNums ns)) else none
 | .val (.int _ n)=>match hasT P s,Fo P d with
  | true,some k=>some (.val (.int k (k.wrap n)))
  | _,_=>none
 | .val (.string b)=>match hasT P s,Hk P d with
  | true,true=>some (.val (.string b))
  | _,_=>none
 | _=>none
def HS (P:Program) (t:TypeId) (x:D) (f:Nat):Option D :=
 match AR P t f with
 | some (o,ft)=>match szOf P ft with
  | some (_ + 1)=>match x with
   | .ptr n off=>some (.ptr n (off + o))
   | .aptr n k i j=>some (.aptr n k i (j + o))
   | .eptr cs=>some (.eptr (cs.drop o))
   | _=>none
  | _=>none
 | none=>none
def OS (P:Program) (t:TypeId) (x:D) (f:Nat):Option D :=
 match AR P t f with
 | some (o,ft)=>match x with
  | .agg cs=>cut P ft (cs.drop o)
  | _=>none
 | none=>none
def at? (rows:List D) (i:Int):Option D:=if 0≤i then rows[i.toNat]? else none
def HT (P:Program) (κ:Kp) (t:TypeId) (x i:D):Option D :=
 match i with
 | .val (.int _ n) =>
  match AM P t with
  | some e=>match x with
   | .sl _ rows=>(at? rows n).bind fun r=>if szOf P e=some r.cells.length then some (.eptr r.cells) else none
   | .own nm _=>match κ nm with
    | some (.arr _ k rows)=>if szOf P e=some k∧0≤n∧n < rows.length then some (.aptr nm k n.toNat 0) else none
    | _=>none
   | .osl nm k off len=>match κ nm with
    | some (.arr _ k' rows)=>if szOf P e=some k∧k'=k∧0≤n∧n < len∧off + len≤rows.length then some (.aptr nm k (off + n.toNat) 0) else none
    | _=>none
   | _=>none
  | none=>match V0 P t with
   | some (m,e)=>match szOf P e with
    | some k=>if 0≤n∧n < m then
      match x with
      | .ptr nm off=>some (.ptr nm (off + n.toNat * k))
      | .eptr cs=>some (.eptr (cs.drop (n.toNat * k)))
      | _=>none
     else none
    | none=>none
   | none=>none
 | _=>none
def OT (P:Program) (t:TypeId) (x i:D):Option D :=
 match i with
 | .val (.int _ n)=>match x with
  | .val (.string s)=>if Hk P t=true∧0≤n then (s[n.toNat]?).map fun b=>.val (.int .u8 b.toNat) else none
  | _=>none
 | _=>none
def lenD (P:Program) (t:TypeId) (x:D):Option D :=
 match x with
 | .val (.string s)=>if Hk P t then some (.val (.int .i64 s.size)) else none
 | .sl _ rows=>if (AM P t).isSome then some (.val (.int .i64 rows.length)) else none
 | .own _ n=>if (AM P t).isSome then some (.val (.int .i64 n)) else none
 | .osl _ _ _ n=>if (AM P t).isSome then some (.val (.int .i64 n)) else none
 | .val (.slice _ n _)=>if (AM P t).isSome then some (.val (.int .i64 n)) else none
 | _=>none
def over (cs:List D) (o:Nat) (new:List D):List D:=cs.take o++new++cs.drop (o + new.length)
def Ky (place:Nat→Option (Nat × Nat)):List D→List (Nat × D)→Option (List D)
 | cs,[]=>some cs
 | cs,(i,d) :: r=>match place i with
  | none=>none
  | some (o,k)=>if d.cells.length=k∧o + k≤cs.length∧d.cells.all D.one=true then Ky place (over cs o d.cells) r else none
def Cj (P:Program) (t:TypeId):Option (List (Nat × Nat)) :=
 match P.underlying t with
 | some (.struct fields)=>fields.toList.mapM fun f=>(P.info? f.type).map fun i=>(f.offset,i.size)
 | _=>none
def OU (P:Program) (t:TypeId) (ps:List (Nat × D)):Option D :=
 match AL P t,Cj P t with
 | some z,some pl=>(Ky (fun i=>pl[i]?) (z.cells.toList.map .val) ps).map .agg
 | _,_=>none
def KC.of (P:Program) (t:TypeId):Option KC:=match P.underlying t with
 | some .string=>some .str
 | some (.int k)=>some (.num k)
 | some .bool=>some .boo
 | _=>none
def KC.ofFs (P:Program) (sub:TypeId→Option (List KC)):List Field→Nat→Option (List KC)
 | [],_=>some []
 | f :: fs, i => if f.name ≠ "_" ∧ f.offset = i then match sub f.type with
   | some cs=>if szOf P f.type=some cs.length then (KC.ofFs P sub fs (i + cs.length)).map (cs++·) else none
   | none=>none
  else none
def KC.ofT (P:Program):Nat→TypeId→Option (List KC)
 | 0,t=>(KC.of P t).map fun c=>[c]
 | n + 1,t=>match P.underlying t with
  | some (.struct fs)=>if P.stoodInHeld t then none else KC.ofFs P (KC.ofT P n) fs.toList 0
  | _=>(KC.of P t).map fun c=>[c]
def KS.of (P:Program) (t:TypeId):Option KS:=match P.underlying t with
 | some (.struct fs)=>if P.stoodInHeld t then none else (KC.ofFs P (KC.ofT P 1) fs.toList 0).map .agg
 | _=>(KC.of P t).map .one
def mapT (P:Program) (t:TypeId):Option (TypeId × TypeId):=match P.underlying t with
 | some (.map k e)=>some (k,e)
 | _=>none
def I8:List D→Option (List Value)
 | []=>some []
 | .val v :: r=>(I8 r).map (v :: ·)
 | _=>none
def keyD:D→Option Value
 | .val v=>some v
 | .agg ds=>(I8 ds).map fun vs=>.agg vs.toArray
 | _=>none
open Classical in
noncomputable def mget:List (Value × D)→Value→Option D
 | [],_=>none
 | (k',d) :: r,k=>if k'=k then some d else mget r k
open Classical in
noncomputable def mput:List (Value × D)→Value→D→List (Value × D)
 | [],k,d=>[(k,d)]
 | (k',d') :: r,k,d=>if k'=k then (k',d) :: r else (k',d') :: mput r k d
def OW (κ:Kp):D→Option (KS × List (Value × D))
 | .mref n=>match κ n with
  | some (.map ks es)=>some (ks,es)
  | _=>none
 | .fmap ks es=>some (ks,es)
 | _=>none
def okD (ok:Bool) (d:D) (b:Bool):D:=if ok then .tup [d,.val (.bool b)] else d
noncomputable def Sp (P:Program) (et:TypeId) (ok:Bool):Option D→Option D
 | some d=>some (okD ok d true)
 | none=>(AL P et).map fun z=>okD ok (ofV z) false
noncomputable def MQ (P:Program) (κ:Kp) (t:TypeId) (x key:D) (ok:Bool):Option D :=
 match mapT P t with
 | some (kt,et)=>match KS.of P kt,keyD key with
  | some ks,some k=>if ks.fits k=true then (match OW κ x with
    | some (ks',es)=>if ks'=ks then Sp P et ok (mget es k) else none
    | none=>match x with
     | .val (.map none)=>Sp P et ok none
     | _=>none) else none
  | _,_=>none
 | none=>none
def capD (P:Program) (t:TypeId):D→Option D
 | .val (.slice _ _ c)=>if (AM P t).isSome then some (.val (.int .i64 c)) else none
 | _=>none
def mmD (mx:Bool):D→D→Option D
 | .val (.int k a),.val (.int k' b)=>if k=k' then some (.val (.int k (if mx=true then (if b > a then b else a) else (if b < a then b else a)))) else none
 | _,_=>none
def lenM (P:Program) (κ:Kp) (t:TypeId) (x:D):Option D :=
 match OW κ x with
 | some (_,es)=>if (mapT P t).isSome then some (.val (.int .i64 es.length)) else none
 | none=>lenD P t x
def subD (P:Program) (t:TypeId):D→D→D→Option D
 | .val (.string s),.val (.int _ l),.val (.int _ h)=>if Hk P t=true∧0≤l∧l≤h∧h≤s.size then some (.val (.string (s.extract l.toNat h.toNat))) else none
 | _,_,_=>none
def egOf (P:Program) (t:TypeId):Bool:=P.eqGuardType P.depth t
open Classical in
noncomputable def OX (P:Program) (t:TypeId) (op:BinOp):D→D→Option D
 | .agg xs,.agg ys=>match KS.of P t,I8 xs,I8 ys with
  | some (.agg cs),some vs,some us=>if egOf P t=false∧KC.fitsL cs vs=true∧KC.fitsL cs us=true then (eqR op (decide (vs=us))).map .val else none
  | _,_,_=>none
 | _,_=>none
def GW (k:Nat) (rows:List D):Prop:=∀ r∈rows,r.cells.length=k
open Classical in
noncomputable def sliD (P:Program) (κ:Kp) (t:TypeId) (x:D) (l:Int) (h:Option Int):Option D :=
 match AM P t with
 | some e=>match szOf P e with
  | some k=>match x with
   | .sl _ rows=>if 0≤l∧l≤h.getD rows.length∧h.getD rows.length≤rows.length∧GW k rows then some (.sl false ((rows.take (h.getD rows.length).toNat).drop l.toNat)) else none
   | .own n _=>match κ n with
    | some (.arr _ k' rows)=>if k'=k∧0 < rows.length∧0≤l∧l≤h.getD rows.length∧h.getD rows.length≤rows.length then some (.osl n k l.toNat (h.getD rows.length - l).toNat) else none
    | _=>none
   | .osl n k' off len=>if k'=k∧0≤l∧l≤h.getD len∧h.getD len≤len then some (.osl n k (off + l.toNat) (h.getD len - l).toNat) else none
   | _=>none
  | none=>none
 | none=>none
def Iw:D→Option Int
 | .val (.int _ n)=>some n
 | _=>none
noncomputable def OY (P:Program) (κ:Kp) (t:TypeId) (x:D):Option D→Option D→Option D
 | none,none=>sliD P κ t x 0 none
 | some l,none=>(Iw l).bind fun l=>sliD P κ t x l none
 | none,some h=>(Iw h).bind fun h=>sliD P κ t x 0 (some h)
 | some l,some h=>match subD P t x l h with
  | some v=>some v
  | none=>(Iw l).bind fun l=>(Iw h).bind fun h=>sliD P κ t x l (some h)
def OZ:Operand→Bool
 | .const .nilIface=>true
 | _=>false
def JP (P:Program) (t:TypeId) (op:BinOp):D→Option D
 | .iface _ _=>if AV P t=true∧hasT P t=true then (eqR op false).map .val else none
 | .val .nilIface=>if AV P t=true∧hasT P t=true then (eqR op true).map .val else none
 | _=>none
noncomputable def dopR (P:Program) (o:Oper) (e:Operand→D) (κ:Kp):Option D :=
 match o.op with
 | .move x=>some (e x)
 | .assign x=>some (e x)
 | .pick c a b=>match e c with
  | .val (.bool true)=>some (e a)
  | .val (.bool false)=>some (e b)
  | _=>none
 | .load t x=>HR P κ t (e x)
 | .nilCheck x=>nilD (e x)
 | .binOp op t x y _=>match OZ y,e y with
  | true,.val .nilIface=>JP P t op (e x)
  | _,_=>match binD P t op (e x) (e y) with
   | some v=>some v
   | none=>OX P t op (e x) (e y)
 | .unOp op _ x=>unD op (e x)
 | .convert s d x=>So P s d (e x)
 | .makeInterface t x=>if AV P t then none else some (.iface t (e x))
 | .makeFunc fn a c=>some (.func fn (a.toList.map e) (c.toList.map e))
 | .fieldAddr t x f=>HS P t (e x) f
 | .field t x f=>OS P t (e x) f
 | .indexAddr t x i=>HT P κ t (e x) (e i)
 | .index t x i=>OT P t (e x) (e i)
 | .extract t i=>match e t with
  | .tup vs=>vs[i]?
  | _=>none
 | .lookup t x k ok=>MQ P κ t (e x) (e k) ok
 | .build t ps=>OU P t (ps.toList.map fun p=>(p.1,e p.2))
 | .slice t x l h none=>OY P κ t (e x) (l.map e) (h.map e)
 | .call c=>match c.callee,c.args.toList,c.argTypes.toList with
  | .builtin .len,[x],[t]=>lenM P κ t (e x)
  | .builtin .cap,[x],[t]=>capD P t (e x)
  | .builtin .max,[x,y],[_,_]=>mmD true (e x) (e y)
  | .builtin .min,[x,y],[_,_]=>mmD false (e x) (e y)
  | _,_,_=>none
 | _=>none
def Yields (E:Ctx) (o:Oper) (e:Operand→D) (κ:Kp) (v:D):Prop :=
 ∀ w0,E.A w0→∀ G w (ρ:Operand→Value),WF w0 G w→(∀ x∈o.op.operands,V G w (ρ x) (e x))→Objs w0 G w κ →
  ∃ x,(execOp ρ o).run E.P w=.ok (.value x) w∧V G w x v
end Go.Ab
