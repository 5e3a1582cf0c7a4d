/- A part of the proof: ZAB. -/
import Derived.Test.YtnkpcgpmgkaakaaGreatZAA
import Derived.Laws.StructEq
import Derived.MapKept
import Derived.Laws.Cover3
import Derived.Laws.Strings
import Derived.Laws.Build
import Derived.Laws.Pointers
import Derived.Laws.Small
namespace Go.Ab
open Go Go.RowKit
section
variable {P:Program} {G:Gh} {w:World}
theorem ER {t:TypeId} {b:Bool} (h:AS P t=some b):(isAgg t).run P w=.ok b w:=by
 unfold AS at h;cases a:P.underlying t with
 | none=>rw[a] at h; cases h
 | some d =>
  rw[a] at h;simp only[eH,Option.some.injEq] at h;subst h;cases d <;> simp[isAgg,run_underlying a,Vd]
theorem Ck {t:TypeId} {k:Nat} (h:szOf P t=some k):(sizeOf t).run P w=.ok k w:=by
 unfold szOf at h;cases a:P.info? t with
 | none=>rw[a] at h; cases h
 | some i =>
  rw[a] at h;simp only[eH,Option.some.injEq] at h;subst h;simp[sizeOf,typeInfo,a]
theorem Ee {t:TypeId} {z:Value} (h:AL P t=some z):(zeroValue t).run P w=.ok z w:=by
 unfold AL at h;cases a:P.info? t with
 | none=>rw[a] at h; cases h
 | some i =>
  rw[a] at h;simp only[fT] at h;simp[zeroValue,typeInfo,a,h]
theorem Qf {b off:Nat} {cs:List D} {X:Nat→Value} (hc:∀ (j:Nat) d,cs[j]?=some d→w.cell? ⟨b,off + j,none⟩=some (X j))
  (hV:∀ (j:Nat) d,cs[j]?=some d→V G w (X j) d) {t:TypeId} {v:D} (h:cut P t cs=some v) :
  ∃ x,(loadVar t ⟨b,off,none⟩).run P w=.ok x w∧V G w x v:=by
 unfold cut at h;split at h
 ·rename_i e;split at h
  ·rename_i k g;split at h
   ·rename_i m;cases h;have l:=run_loadCells (P:=P) w ⟨b,off,none⟩ k X (fun j _=>by
     rw[Addr.add_lit];exact hc j _ (dO (by omega)))
    refine ⟨.agg ((List.range k).map X).toArray,?_,.agg (by simp; omega) fun i _ d a c=>?_⟩
    ·simp[loadVar,ER e,Ck g,l]
    ·simp only[eA,eK] at a;rw[eb] at c;split at c
     ·rename_i f;rw[gU f] at a;simp only[eH,Option.some.injEq] at a;subst a;exact hV i d c
     ·cases c
   ·cases h
  ·cases h
 ·rename_i e;cases cs with
  | nil=>simp at h
  | cons d r =>
   simp only[List.head?_cons,Option.some.injEq] at h;subst h;have h0:=hc 0 d rfl;simp only[gD] at h0;exact ⟨X 0,by simp[loadVar,ER e,h0],hV 0 d rfl⟩
 ·cases h
theorem Xa {w0:World} {κ:Kp} (ho:Objs w0 G w κ) {n:Nm} {t:TypeId} {cs:List D} (h:κ n=some (.box t cs)) {b off:Nat} (hv:V G w (.pointer (some ⟨b,off,none⟩)) (.ptr n off)) :
  ∃ X:Nat→Value,(∀ (j:Nat) d,(cs.drop off)[j]?=some d→w.cell? ⟨b,off + j,none⟩=some (X j))∧(∀ (j:Nat) d,(cs.drop off)[j]?=some d→V G w (X j) d):=by
 obtain ⟨v,k,⟨l,c,rfl,i,m,g⟩,_⟩:=ho.ob n _ h;cases hv with
 | ptr f =>
  rw[k] at f;cases f;refine ⟨fun j=>c.getD (off + j) undef,fun j d a=>?_,fun j d a=>?_⟩
  ·rw[eR] at a;have e:off + j < c.size:=by
    have:=(dW.1 a).1;omega
   rw[cell_of_row w b (off + j) c t (0,0) i];simp[e]
  ·rw[eR] at a;have e:off + j < c.size:=by
    have:=(dW.1 a).1;omega
   have:=g (off + j) c[off + j] d (by simp[e]) a;simpa [e] using this
theorem LL {w0:World} {κ:Kp} (ho:Objs w0 G w κ) {n:Nm} {t:TypeId} {k:Nat} {rows:List D} (h:κ n=some (.arr t k rows)) :
  ∃ v xs,G.ρ n=some v∧w.ownsRow w0.heap.size t k v rows.length xs∧∀ (i:Nat) r,rows[i]?=some r→r.cells.length=k∧∀ (j:Nat) d,r.cells[j]?=some d→∃ x,xs[i * k + j]?=some x∧V G w x d:=by
 obtain ⟨v,c,⟨xs,a,b⟩,_⟩:=ho.ob n _ h;exact ⟨v,xs,c,a,b⟩
theorem Xb {w0:World} {κ:Kp} (ho:Objs w0 G w κ) {n:Nm} {t:TypeId} {k i j:Nat} {rows:List D} {r:D} (h:κ n=some (.arr t k rows)) (hr:rows[i]?=some r) {b off:Nat}
  (hv:V G w (.pointer (some ⟨b,off,none⟩)) (.aptr n k i j)) :
  off=i * k + j∧∃ X:Nat→Value,(∀ (l:Nat) d,(r.cells.drop j)[l]?=some d→w.cell? ⟨b,off + l,none⟩=some (X l))∧(∀ (l:Nat) d,(r.cells.drop j)[l]?=some d→V G w (X l) d):=by
 obtain ⟨v,q,p,m,e⟩:=LL ho h;cases hv with
 | aptr f =>
  rw[p] at f;cases f;refine ⟨rfl,fun l=>q.getD (i * k + (j + l)) undef,fun l d a=>?_,fun l d a=>?_⟩
  ·rw[eR] at a;obtain ⟨x,c,_⟩:=(e i r hr).2 (j + l) d a;have:=m.cells (g:=b) rfl (i * k + (j + l)) x c;rw[Addr.add_lit,eN] at this;rw[fU,this];simp[c]
  ·rw[eR] at a;obtain ⟨x,c,o⟩:=(e i r hr).2 (j + l) d a;simpa [c] using o
theorem SA {w0:World} {κ:Kp} (ho:Objs w0 G w κ) {t:TypeId} {x:Value} {d v:D} (hx:V G w x d) (h:HR P κ t d=some v):∃ y,(Instr.loadAt t x).run P w=.ok y w∧V G w y v:=by
 cases hx with
 | ptr m =>
  rename_i n b off;simp only[HR] at h;split at h
  ·rename_i s g;obtain ⟨X,a,c⟩:=Xa ho g (V.ptr (off:=off) m);obtain ⟨y,f,e⟩:=Qf a c h;exact ⟨y,by simp[Instr.loadAt,Instr.sureAddr,f],e⟩
  ·cases h
 | aptr m =>
  rename_i n b len q k i j;simp only[HR] at h;split at h
  ·rename_i z u p g;split at h
   ·rename_i o;subst o;cases l:p[i]? with
    | none=>rw[l] at h; cases h
    | some r =>
     rw[l] at h;obtain ⟨_,X,a,c⟩:=Xb ho g l (V.aptr (i:=i) (j:=j) m);obtain ⟨y,f,e⟩:=Qf a c h;exact ⟨y,by simp[Instr.loadAt,Instr.sureAddr,f],e⟩
   ·cases h
  ·cases h
 | eptr X h0 a c =>
  obtain ⟨y,f,e⟩:=Qf a c h;exact ⟨y,by simp[Instr.loadAt,Instr.sureAddr,f],e⟩
 | _=>simp[HR] at h
theorem SB {t:TypeId} {f o:Nat} {ft:TypeId} (h:AR P t f=some (o,ft)):∃ fs fd,P.underlying t=some (.struct fs)∧fs[f]?=some fd∧fd.offset=o∧fd.type=ft:=by
 unfold AR at h;split at h
 ·rename_i fs b;cases a:fs[f]? with
  | none=>rw[a] at h; cases h
  | some fd =>
   rw[a] at h;simp only[eH,Option.some.injEq,Prod.mk.injEq] at h;exact ⟨fs,fd,b,a,h.1,h.2⟩
 ·cases h
theorem RS {t:TypeId} {f:Nat} {x:Value} {d v:D} (hx:V G w x d) (h:HS P t d f=some v):∃ y,(Instr.fieldAt t x f).run P w=.ok y w∧V G w y v:=by
 unfold HS at h;split at h
 ·rename_i o s m;split at h
  ·rename_i k p;obtain ⟨r,g,q,n,rfl,rfl⟩:=SB m;have run:∀ (b e:Nat),(Instr.fieldAt t (.pointer (some ⟨b,e,none⟩)) f).run P w=.ok (.pointer (some ⟨b,e + g.offset,none⟩)) w:=fun b e=>by
    simp[Instr.fieldAt,run_underlying q,n,Instr.sureAddr,fieldPlace,Ck p,Addr.add_lit]
   cases hx with
   | ptr c=>cases h; exact ⟨_,run _ _,.ptr c⟩
   | aptr c =>
    cases h;refine ⟨_,run _ _,?_⟩;rw[fU];exact .aptr c
   | eptr X h0 i l =>
    cases h;refine ⟨_,run _ _,.eptr (fun j=>X (g.offset + j)) h0 (fun j d a=>?_) (fun j d a=>?_)⟩
    ·rw[eR] at a;rw[fU];exact i _ d a
    ·rw[eR] at a;exact l _ d a
   | _=>cases h
  ·cases h
 ·cases h
theorem YL {cs:Array Value} {ds:List D} (hs:cs.size=ds.length) (hV:∀ (i:Nat) c d,cs[i]?=some c→ds[i]?=some d→V G w c d) {o:Nat} {t:TypeId} {v:D} (h:cut P t (ds.drop o)=some v) :
  ∃ y,(part t cs o).run P w=.ok y w∧V G w y v:=by
 unfold cut at h;split at h
 ·rename_i e;split at h
  ·rename_i k g;split at h
   ·rename_i j;cases h;simp only[List.length_drop] at j;refine ⟨.agg (cs.extract o (o + k)),by simp[part,ER e,Ck g],.agg (by simp; omega) fun i c d b a=>?_⟩;rw[eb] at a;split at a
    ·rw[eR] at a;rw[Array.getElem?_extract] at b;split at b
     ·exact hV _ _ _ b a
     ·cases b
    ·cases a
   ·cases h
  ·cases h
 ·rename_i e;rw[List.head?_drop] at h;have f:o < cs.size:=by
   have:=(dW.1 h).1;omega
  refine ⟨cs[o],by simp[part,ER e,f],hV o _ _ (by simp[f]) h⟩
 ·cases h
theorem Xc {t:TypeId} {f:Nat} {x:Value} {d v:D} (hx:V G w x d) (h:OS P t d f=some v):∃ y,(Instr.field t x f).run P w=.ok y w∧V G w y v:=by
 unfold OS at h;split at h
 ·rename_i o m b;obtain ⟨l,k,g,c,rfl,rfl⟩:=SB b;cases hx with
  | agg e a =>
   obtain ⟨y,j,i⟩:=YL (P:=P) e a h;exact ⟨y,by simp[Instr.field,run_underlying g,c,asAgg,j],i⟩
  | _=>cases h
 ·cases h
theorem BT {t e:TypeId} (h:AM P t=some e):P.underlying t=some (.slice e):=by
 unfold AM at h;split at h
 ·rename_i a; cases h; exact a
 ·cases h
theorem V1 {t e:TypeId} {n:Nat} (h:V0 P t=some (n,e)):P.underlying t=some (.array n e):=by
 unfold V0 at h;split at h
 ·rename_i a; cases h; exact a
 ·cases h
theorem RU {w0:World} {κ:Kp} (ho:Objs w0 G w κ) {t:TypeId} {x y:Value} {d i v:D} (hx:V G w x d) (hy:V G w y i) (h:HT P κ t d i=some v) :
  ∃ z,(Instr.indexAt t x y).run P w=.ok z w∧V G w z v:=by
 unfold HT at h;split at h
 ·rename_i k n;have:=V.of_val hy;subst this;split at h
  ·rename_i e J;have s:=BT J;split at h
   ·rename_i xf H;cases c:at? H n with
    | none=>rw[c] at h; cases h
    | some r =>
     rw[c] at h;simp only[fT] at h;split at h
     ·rename_i l;cases h;unfold at? at c;split at c
      ·rename_i h0;have A:=(dW.1 c).1;cases hx with
       | nilsl=>simp at c
       | esl=>simp at c
       | sl X hn I h3 O T p Q =>
        rename_i b q m F o;have U:=T _ _ c;rw[U] at l;refine ⟨.pointer (some ⟨b,q + n.toNat * o,none⟩),?_,.eptr (X n.toNat) O (fun j d f=>?_) (fun j d f=>Q _ _ _ _ c f)⟩
        ·have:0≤n∧n < m:=by omega
         simp[Instr.indexAt,asIntOf,run_underlying s,Ck l,this,Addr.add_lit]
        ·rw[fU]; exact p _ _ _ _ c f
      ·cases c
     ·cases h
   ·rename_i Z len;split at h
    ·rename_i t' o H K;split at h
     ·rename_i p;cases h;obtain ⟨l,h0,A⟩:=p;obtain ⟨u,xs,B,W,_⟩:=LL ho K;cases hx with
      | own E =>
       rw[E] at B;cases B;rcases W.2 with ⟨a6,hz⟩ | ⟨g,F,a1,Y,_⟩
       ·omega
       ·cases Y;refine ⟨.pointer (some ⟨g,n.toNat * o + 0,none⟩),?_,.aptr E⟩;simp[Instr.indexAt,asIntOf,run_underlying s,Ck l,h0,A,Addr.add_lit]
     ·cases h
    ·cases h
   ·rename_i Z k q len;split at h
    ·rename_i t' o H K;split at h
     ·rename_i p;cases h;obtain ⟨l,rfl,h0,A,_⟩:=p;cases hx with
      | osl E hC a4 R =>
       rename_i b F L C a;have S:0 < F:=by omega
       rw[R S];refine ⟨.pointer (some ⟨b,(q + n.toNat) * o + 0,none⟩),?_,.aptr E⟩;simp[Instr.indexAt,asIntOf,run_underlying s,Ck l,h0,A,Addr.add_lit,fG]
     ·cases h
    ·cases h
   ·cases h
  ·rename_i J;split at h
   ·rename_i m e N;have s:=V1 N;split at h
    ·rename_i o l;split at h
     ·rename_i p;have run:∀ (b q:Nat),(Instr.indexAt t (.pointer (some ⟨b,q,none⟩)) (.int k n)).run P w=.ok (.pointer (some ⟨b,q + n.toNat * o,none⟩)) w:=fun b q=>by
       simp[Instr.indexAt,Instr.sureAddr,asIntOf,run_underlying s,Ck l,p,Addr.add_lit]
      cases hx with
      | ptr B=>cases h; exact ⟨_,run _ _,.ptr B⟩
      | eptr X h0 M I =>
       cases h;refine ⟨_,run _ _,.eptr (fun j=>X (n.toNat * o + j)) h0 (fun j d f=>?_) (fun j d f=>?_)⟩
       ·rw[eR] at f;rw[fU];exact M _ d f
       ·rw[eR] at f;exact I _ d f
      | _=>cases h
     ·cases h
    ·cases h
   ·cases h
 ·cases h
theorem FC {t:TypeId} (h:Hk P t=true):P.underlying t=some .string:=by
 unfold Hk at h;split at h
 ·assumption
 ·cases h
theorem Xd {t:TypeId} {x y:Value} {d i v:D} (hx:V G w x d) (hy:V G w y i) (h:OT P t d i=some v):∃ z,(Instr.index t x y).run P w=.ok z w∧V G w z v:=by
 unfold OT at h;split at h
 ·rename_i k n;have:=V.of_val hy;subst this;split at h
  ·rename_i s;have:=V.of_val hx;subst this;split at h
   ·rename_i c;have e:=FC c.1;cases a:s[n.toNat]? with
    | none=>rw[a] at h; cases h
    | some b =>
     rw[a] at h;cases h;exact ⟨_,by simp[Instr.index,asIntOf,run_underlying e,c.2,a],.val _⟩
   ·cases h
  ·cases h
 ·cases h
theorem aam {t ty:TypeId} {x:Value} {d v:D} (hx:V G w x d) (h:lenD P t d=some v):∃ z,(Builtin.len_ #[t] ty #[x]).run P w=.ok z w∧V G w z v:=by
 unfold lenD at h;split at h
 ·rename_i s;have:=V.of_val hx;subst this;split at h
  ·rename_i b;cases h;exact ⟨_,by simp[Builtin.len_,run_underlying (FC b)]; rfl,.val _⟩
  ·cases h
 ·split at h
  ·rename_i b;obtain ⟨e,a⟩:=fP.1 b;cases h;cases hx with
   | nilsl=>exact ⟨_,by simp[Builtin.len_,run_underlying (BT a)]; rfl,.val _⟩
   | esl=>exact ⟨_,by simp[Builtin.len_,run_underlying (BT a)]; rfl,.val _⟩
   | sl X c=>subst c; exact ⟨_,by simp[Builtin.len_,run_underlying (BT a)]; rfl,.val _⟩
  ·cases h
 ·split at h
  ·rename_i b;obtain ⟨e,a⟩:=fP.1 b;cases h;cases hx with
   | own=>exact ⟨_,by simp[Builtin.len_,run_underlying (BT a)]; rfl,.val _⟩
  ·cases h
 ·split at h
  ·rename_i b;obtain ⟨e,a⟩:=fP.1 b;cases h;cases hx with
   | osl=>exact ⟨_,by simp[Builtin.len_,run_underlying (BT a)]; rfl,.val _⟩
  ·cases h
 ·split at h
  ·rename_i b;obtain ⟨e,a⟩:=fP.1 b;cases h;have:=V.of_val hx;subst this;exact ⟨_,by simp[Builtin.len_,run_underlying (BT a)]; rfl,.val _⟩
  ·cases h
 ·cases h
end
section
variable {P:Program} {w:World}
theorem LM {t kt et:TypeId} (h:mapT P t=some (kt,et)):P.underlying t=some (.map kt et):=by
 unfold mapT at h;split at h
 ·rename_i k e a; cases h; exact a
 ·cases h
def KC.desc:KC→TypeDesc
 | .str=>.string
 | .num k=>.int k
 | .boo=>.bool
theorem LN (a b:ByteArray):(a == b)=true↔a=b:=by
 rw[beq_toListBytes,ByteArray.toList_eq,ByteArray.toList_eq];obtain ⟨⟨x⟩⟩:=a;obtain ⟨⟨y⟩⟩:=b;simp
theorem KC.of_spec {t:TypeId} {c:KC} (h:KC.of P t=some c):P.underlying t=some c.desc:=by
 unfold KC.of at h;split at h <;> cases h <;> assumption
theorem KC.fits_cases {c:KC} {v:Value} (h:c.fits v=true):(c=.str∧∃ s,v=.string s)∨(∃ k n,c=.num k∧v=.int k n)∨(c=.boo∧∃ b,v=.bool b):=by
 cases c <;> cases v <;> simp[KC.fits] at h
 ·exact .inl ⟨rfl,_,rfl⟩
 ·subst h; exact .inr (.inl ⟨_,_,rfl,rfl⟩)
 ·exact .inr (.inr ⟨rfl,_,rfl⟩)
open Classical in
theorem KC.eq_run {t:TypeId} {c:KC} (hc:KC.of P t=some c) (d:Nat) {a b:Value} (ha:c.fits a=true) (hb:c.fits b=true):(Op.equalIn (d + 1) t a b).run P w=.ok (decide (a=b)) w:=by
 have e:=KC.of_spec hc;rcases KC.fits_cases ha with ⟨rfl,s,rfl⟩ | ⟨k,n,rfl,rfl⟩ | ⟨rfl,x,rfl⟩ <;> rcases KC.fits_cases hb with ⟨h,s',rfl⟩ | ⟨k',n',h,rfl⟩ | ⟨h,x',rfl⟩ <;> cases h
 ·simp[Op.equalIn,run_underlying e,KC.desc];rw[ge]; simp[LN]
 ·simp[Op.equalIn,run_underlying e,KC.desc];rw[ge]; simp
 ·simp[Op.equalIn,run_underlying e,KC.desc];rw[ge]; simp
theorem KC.agg_not {t:TypeId} {c:KC} (hc:KC.of P t=some c):AS P t=some false:=by
 have a:=KC.of_spec hc;unfold AS;rw[a];cases c <;> rfl
theorem QR {t:TypeId} {c:KC} (hc:KC.of P t=some c) {xs:Array Value} {off:Nat} {v:Value} (hx:xs[off]?=some v):(part t xs off).run P w=.ok v w:=by
 simp[part,ER (KC.agg_not hc),hx]
theorem KC.fitsL_len:∀ {cs:List KC} {vs:List Value},KC.fitsL cs vs=true→vs.length=cs.length
 | [],[],_=>rfl
 | _ :: cs,_ :: vs,h=>by
  simp only[KC.fitsL,ej] at h;simp[KC.fitsL_len h.2]
 | [],_ :: _,h=>by simp[KC.fitsL] at h
 | _ :: _,[],h=>by simp[KC.fitsL] at h
theorem KC.fitsL_app:∀ {cs cs' : List KC} {vs:List Value},KC.fitsL (cs++cs') vs=true→KC.fitsL cs (vs.take cs.length)=true∧KC.fitsL cs' (vs.drop cs.length)=true
 | [],cs',vs,h=>by simpa [KC.fitsL] using h
 | c :: cs,cs',[],h=>by simp[KC.fitsL] at h
 | c :: cs,cs',v :: vs,h=>by
  simp only[f8,KC.fitsL,ej] at h;have:=KC.fitsL_app h.2;simp only[eB,ip,List.drop_succ_cons,KC.fitsL,ej];exact ⟨⟨h.1,this.1⟩,this.2⟩
theorem I9 {sub:TypeId→Option (List KC)} {f:Field} {fs:List Field} {i:Nat} {l:List KC} (h:KC.ofFs P sub (f :: fs) i=some l) :
  f.name ≠ "_" ∧ f.offset = i ∧ ∃ cs cs', sub f.type = some cs ∧ szOf P f.type = some cs.length ∧ KC.ofFs P sub fs (i + cs.length) = some cs' ∧ l = cs ++ cs' := by
 simp only[KC.ofFs] at h;split at h
 ·rename_i a;split at h
  ·rename_i cs b;split at h
   ·rename_i d;obtain ⟨cs',c,rfl⟩:=ee.1 h;exact ⟨a.1,a.2,cs,cs',b,d,c,rfl⟩
   ·cases h
  ·cases h
 ·cases h
open Classical in
def Eqs (P:Program) (w:World) (d:Nat) (t:TypeId) (cs:List KC):Prop :=
 ∀ (xs:Array Value) (off:Nat),KC.fitsL cs ((xs.toList.drop off).take cs.length)=true→∃ v,(part t xs off).run P w=.ok v w∧(∀ em,(Instr.checkKey em (d + 1) t v).run P w=.ok () w) ∧
  ∀ (ys:Array Value) (off' : Nat) u,KC.fitsL cs ((ys.toList.drop off').take cs.length)=true→(part t ys off').run P w=.ok u w →
   (Op.equalIn (d + 1) t v u).run P w=.ok (decide ((xs.toList.drop off).take cs.length=(ys.toList.drop off').take cs.length)) w
theorem SD {xs:List Value} {i:Nat} {c:KC} (h:KC.fitsL [c] ((xs.drop i).take 1)=true):∃ v,xs[i]?=some v∧c.fits v=true∧(xs.drop i).take 1=[v]:=by
 cases a:xs.drop i with
 | nil=>rw[a] at h; simp[KC.fitsL] at h
 | cons v r =>
  rw[a] at h;simp only[ip,gG,KC.fitsL,gL] at h;have h0:xs[i]?=some v:=by
   have:=congrArg (·[0]?) a;simpa using this
  exact ⟨v,h0,h,rfl⟩
theorem LO {t:TypeId} {c:KC} (hc:KC.of P t=some c) (em:Bool) (d:Nat) (v:Value):(Instr.checkKey em (d + 1) t v).run P w=.ok () w:=by
 have a:=KC.of_spec hc;simp only[Instr.checkKey,Sem.run_bind,run_underlying a,Result.andThen_ok];cases c <;> rfl
theorem Ve {t:TypeId} {c:KC} (hc:KC.of P t=some c) (d:Nat):Eqs P w d t [c]:=by
 intro xs off o;obtain ⟨v,n,k,h⟩:=SD o;refine ⟨v,QR hc (by simpa using n),fun g=>LO hc g d v,fun b a u p l=>?_⟩;obtain ⟨q,m,j,i⟩:=SD p;have:=QR (w:=w) hc (xs:=b) (off:=a) (v:=q) (by simpa using m);rw[l] at this;cases this;rw[KC.eq_run hc d k j];have e:(xs.toList.drop off).take [c].length=[v]:=h;have f:(b.toList.drop a).take [c].length=[u]:=i;rw[e,f];simp
theorem aan {t:TypeId} {cs:List KC} {d:Nat} (h:Eqs P w d t cs) {xs:Array Value} {off:Nat} (hx:KC.fitsL cs ((xs.toList.drop off).take cs.length)=true):∃ v,(part t xs off).run P w=.ok v w:=let ⟨v,h1,_⟩:=h xs off hx; ⟨v,h1⟩
theorem LP {cs cs' : List KC} {l:List Value} {i:Nat} (h:KC.fitsL (cs++cs') (l.drop i)=true):KC.fitsL cs ((l.drop i).take cs.length)=true∧KC.fitsL cs' (l.drop (i + cs.length))=true:=by
 have:=KC.fitsL_app h;rw[List.drop_drop] at this;exact this
open Classical in
theorem Ix {sub:TypeId→Option (List KC)} (d:Nat) (hsub:∀ t cs,sub t=some cs→Eqs P w d t cs) {xs ys:Array Value}:∀ (fs:List Field) (i:Nat) (cs:List KC),KC.ofFs P sub fs i=some cs→KC.fitsL cs (xs.toList.drop i)=true→KC.fitsL cs (ys.toList.drop i)=true →
  (Op.eqFields (d + 1) xs ys fs).run P w=.ok (decide (xs.toList.drop i=ys.toList.drop i)) w
 | [],i,cs,h,hx,hy=>by
  simp only[KC.ofFs,Option.some.injEq] at h;subst h;have:∀ l:List Value,KC.fitsL [] l=true→l=[]:=fun l h=>by cases l with | nil=>rfl | cons _ _=>simp[KC.fitsL] at h
  rw[this _ hx,this _ hy];simp[Op.eqFields]
 | f :: fs,i,cs,h,hx,hy=>by
  obtain ⟨hn,ho,c,cs',h1,_,h2,rfl⟩:=I9 h;obtain ⟨fx,hx'⟩:=LP hx;obtain ⟨fy,hy'⟩:=LP hy;obtain ⟨v,pv,_,hv⟩:=hsub _ _ h1 xs i fx;obtain ⟨u,pu⟩:=aan (hsub _ _ h1) fy;have he:=hv ys i u fy pu;have ih:=Ix d hsub fs (i + c.length) cs' h2 hx' hy';have sx:xs.toList.drop i=(xs.toList.drop i).take c.length++xs.toList.drop (i + c.length):=by rw[← List.drop_drop,fC]
  have b:ys.toList.drop i=(ys.toList.drop i).take c.length++ys.toList.drop (i + c.length):=by rw[← List.drop_drop,fC]
  have e:=KC.fitsL_len fx;have g:=KC.fitsL_len fy;simp only[Op.eqFields,hn,ne_eq,not_false_eq_true,if_true,Sem.run_bind,ho,pv,pu,Result.andThen_ok,he];by_cases a:(xs.toList.drop i).take c.length=(ys.toList.drop i).take c.length
  ·simp only[a,decide_true,fQ,fb,if_false,ih]
   congr 1
   rw[ge,decide_eq_true_iff,decide_eq_true_iff];constructor
   ·intro h; rw[sx,b,a,h]
   ·intro h;rw[sx,b,a] at h;exact List.append_cancel_left h
  ·simp only[a,decide_false,f7,if_true,Sem.run_pure]
   congr 1
   symm;rw[decide_eq_false_iff_not];intro h;exact a (by rw[h])
theorem Ja {sub:TypeId→Option (List KC)} {em:Bool} {d:Nat} (hsub:∀ t cs,sub t=some cs→Eqs P w d t cs) {xs:Array Value}:∀ (fs:List Field) (i:Nat) (cs:List KC),KC.ofFs P sub fs i=some cs→KC.fitsL cs (xs.toList.drop i)=true →
  (forIn fs PUnit.unit (fun f _=>do
   if f.name ≠ "_" then
    Instr.checkKey em (d + 1) f.type (← part f.type xs f.offset)
    pure (ForInStep.yield PUnit.unit)
   else pure (ForInStep.yield PUnit.unit)):Sem PUnit).run P w=.ok PUnit.unit w
 | [],_,_,_,_=>rfl
 | f :: fs,i,cs,h,hx=>by
  obtain ⟨hn,ho,c,cs',h1,_,h2,rfl⟩:=I9 h;obtain ⟨fx,hx'⟩:=LP hx;obtain ⟨v,pv,hk,_⟩:=hsub _ _ h1 xs i fx;simp only[List.forIn_cons,hn,ne_eq,not_false_eq_true,if_true,Sem.run_bind,ho,pv,Result.andThen_ok,hk,Sem.run_pure];exact Ja hsub fs (i + c.length) cs' h2 hx'
theorem Jb {sub:TypeId→Option (List KC)} {em:Bool} {d:Nat} (hsub:∀ t cs,sub t=some cs→Eqs P w d t cs) {t:TypeId} {fs:Array Field} (hu:P.underlying t=some (.struct fs)) {xs:Array Value} {cs:List KC} (h:KC.ofFs P sub fs.toList 0=some cs) (hx:KC.fitsL cs xs.toList=true) :
  (Instr.checkKey em (d + 2) t (.agg xs)).run P w=.ok () w:=by
 have:=Ja (em:=em) hsub fs.toList 0 cs h (by simpa using hx);rw[Instr.checkKey];simp only[Sem.run_bind,run_underlying hu,Result.andThen_ok];rw[← Array.forIn_toList];simp only[ne_eq,ite_not,bind_pure_comp] at this ⊢;simp at this ⊢;rw[this]
 rfl
theorem Hl {t:TypeId} {fs:Array Field} (h:P.underlying t=some (.struct fs)):P.fieldsOf t=fs:=by
 unfold Program.fieldsOf; rw[h]
theorem Kz (xs:Array Value) (off n:Nat):(xs.extract off (off + n)).toList=(xs.toList.drop off).take n:=by
 rw[Array.toList_extract,List.extract_eq_take_drop]
 congr 1
 omega
open Classical in
theorem Xe:∀ (n d:Nat) (t:TypeId) (cs:List KC),KC.ofT P n t=some cs→szOf P t=some cs.length→Eqs P w (d + n) t cs
 | 0,d,t,cs,h,_=>by
  obtain ⟨c,hc,rfl⟩:=ee.1 h;exact Ve hc _
 | n + 1,d,t,cs,h,hsz=>by
  simp only[KC.ofT] at h;split at h
  ·rename_i fs hu;split at h
   ·cases h
   ·rename_i hst;intro xs off hx;have hag:AS P t=some true:=by unfold AS; rw[hu]; rfl
    have j:∀ (t:TypeId) (cs:List KC),(fun t=>(KC.ofT P n t).bind fun cs=>if szOf P t=some cs.length then some cs else none) t=some cs→Eqs P w (d + n) t cs:=fun t cs h=>by
     obtain ⟨y,e,b⟩:=fj.1 h;split at b
     ·rename_i o; cases b; exact Xe n d t _ e o
     ·cases b
    have g:KC.ofFs P (fun t=>(KC.ofT P n t).bind fun cs=>if szOf P t=some cs.length then some cs else none) fs.toList 0=some cs:=by
     have key:∀ (l:List Field) (i:Nat) (cs:List KC),KC.ofFs P (KC.ofT P n) l i=some cs→KC.ofFs P (fun t=>(KC.ofT P n t).bind fun cs=>if szOf P t=some cs.length then some cs else none) l i=some cs:=by
      intro l;induction l with
      | nil=>intro i cs h; exact h
      | cons f l ih =>
       intro i cs h;obtain ⟨q,r,c,x,s,u,v,rfl⟩:=I9 h;simp only[KC.ofFs,q,r,ne_eq,not_false_eq_true,and_self,if_true,s,u,fT,ih _ _ v,eH]
     exact key _ _ _ h
    refine ⟨.agg (xs.extract off (off + cs.length)),by simp[part,ER hag,Ck hsz],fun _=>?_,fun ys a _ p k=>?_⟩
    ·exact Jb j hu g (by rw[Kz]; exact hx)
    ·have m:(part t ys a).run P w=.ok (.agg (ys.extract a (a + cs.length))) w:=by simp[part,ER hag,Ck hsz]
     rw[m] at k;cases k;have e:=run_equalIn_struct (P:=P) w (d + n + 1) t (xs.extract off (off + cs.length)) (ys.extract a (a + cs.length)) (by rw[Hl hu]; exact hu) (by simpa using hst);have b:=Ix (d + n) j (xs:=xs.extract off (off + cs.length)) (ys:=ys.extract a (a + cs.length)) fs.toList 0 cs g (by rw[gP,Kz]; exact hx) (by rw[gP,Kz]; exact p);rw[Hl hu] at e
     show (Op.equalIn (d + n + 1 + 1) t _ _).run P w=_;rw[e,b];simp only[gP,Kz]
  ·obtain ⟨c,hc,rfl⟩:=ee.1 h;exact Ve hc _
theorem O4 {n:Nat}:∀ {l:List Field} {i:Nat} {cs:List KC},KC.ofFs P (KC.ofT P n) l i=some cs→KC.ofFs P (fun t=>(KC.ofT P n t).bind fun cs=>if szOf P t=some cs.length then some cs else none) l i=some cs:=by
 intro l;induction l with
 | nil=>intro i cs h; exact h
 | cons f l ih =>
  intro i cs h;obtain ⟨a,b,c,j,d,e,g,rfl⟩:=I9 h;simp only[KC.ofFs,a,b,ne_eq,not_false_eq_true,and_self,if_true,d,e,fT,ih g,eH]
theorem QS (n d:Nat):∀ (t:TypeId) (cs:List KC),(fun t=>(KC.ofT P n t).bind fun cs=>if szOf P t=some cs.length then some cs else none) t=some cs→Eqs P w (d + n) t cs:=fun t cs h=>by
 obtain ⟨cs',h1,h2⟩:=fj.1 h;split at h2
 ·rename_i hs; cases h2; exact Xe n d t _ h1 hs
 ·cases h2
open Classical in
theorem KS.eq_run {t:TypeId} {ks:KS} (hk:KS.of P t=some ks) {a b:Value} (ha:ks.fits a=true) (hb:ks.fits b=true):(Op.equal t a b).run P w=.ok (decide (a=b)) w:=by
 unfold KS.of at hk;split at hk
 ·rename_i f d;split at hk
  ·cases hk
  ·rename_i j;obtain ⟨e,i,rfl⟩:=ee.1 hk;cases a with
   | agg xs =>
    cases b with
    | agg ys =>
     have:=run_equalIn_struct (P:=P) w 9999 t xs ys (by rw[Hl d]; exact d) (by simpa using j);have g:=Ix (P:=P) (w:=w) 9998 (QS 1 9997) (xs:=xs) (ys:=ys) f.toList 0 e (O4 i) (by simpa [KS.fits] using ha) (by simpa [KS.fits] using hb);rw[Hl d] at this;unfold Op.equal Op.maxDepth;rw[this,g]
     congr 1
     rw[ge];simp
    | _=>simp[KS.fits] at hb
   | _=>simp[KS.fits] at ha
 ·obtain ⟨c,h,rfl⟩:=ee.1 hk;exact KC.eq_run h 9999 ha hb
open Classical in
noncomputable def CX (k:Value):List MapEntry→Nat→Option (Nat × Value)
 | [],_=>none
 | e :: es,i=>if k=e.key then some (i,e.val) else CX k es (i + 1)
theorem JQ {t:TypeId} {ks:KS} (hk:KS.of P t=some ks) {k:Value} (ha:ks.fits k=true):∀ (es:List MapEntry) (i:Nat),(∀ e∈es,ks.fits e.key=true)→(Instr.findAsking t k es i).run P w=.ok (CX k es i) w
 | [],i,_=>by simp[Instr.findAsking,CX]
 | e :: es,i,h=>by
  simp only[Instr.findAsking,Sem.run_bind,KS.eq_run hk ha (h e dY),Result.andThen_ok,CX];by_cases he:k=e.key
  ·simp[he]
  ·simp only[he,decide_false,fb,if_false];exact JQ hk ha es (i + 1) fun x hx=>h x (ea _ hx)
theorem Ur {c:KC} {t:TypeId} (hc:KC.of P t=some c) {u:TypeDesc} (hu:P.underlying t=some u) {a b:Value} (ha:c.fits a=true) (hb:c.fits b=true):∃ r,Instr.sameNow u a b=some r∧(r=true↔a=b):=by
 have:=KC.of_spec hc;rw[hu] at this;cases this;rcases KC.fits_cases ha with ⟨rfl,s,rfl⟩ | ⟨k,n,rfl,rfl⟩ | ⟨rfl,x,rfl⟩ <;> rcases KC.fits_cases hb with ⟨h,s',rfl⟩ | ⟨k',n',h,rfl⟩ | ⟨h,x',rfl⟩ <;> cases h
 ·exact ⟨s == s',rfl,by simp[LN]⟩
 ·exact ⟨n == n',by simp[Instr.sameNow,KC.desc],by simp⟩
 ·exact ⟨x == x',rfl,by simp⟩
theorem Nq {c:KC} {t:TypeId} (hc:KC.of P t=some c) {u:TypeDesc} (hu:P.underlying t=some u) {k:Value} (ha:c.fits k=true):∀ (es:List MapEntry) (i:Nat),(∀ e∈es,c.fits e.key=true)→Instr.findNow u k es i=some (CX k es i)
 | [],i,_=>rfl
 | e :: es,i,h=>by
  obtain ⟨r,h1,h2⟩:=Ur hc hu ha (h e dY);simp only[Instr.findNow,h1,CX];cases r with
  | true=>rw[if_pos (h2.1 rfl)]
  | false=>rw[if_neg fun e=>by simpa using h2.2 e]; exact Nq hc hu ha es (i + 1) fun x hx=>h x (ea _ hx)
theorem JC {t:TypeId} {ks:KS} (hk:KS.of P t=some ks) {k:Value} (ha:ks.fits k=true) (es:List MapEntry) (h:∀ e∈es,ks.fits e.key=true):(Instr.findKey t k es).run P w=.ok (CX k es 0) w:=by
 have d:=JQ (w:=w) hk ha es 0 h;obtain ⟨u,a⟩:∃ u,P.underlying t=some u:=by
  cases a:P.underlying t with
  | none=>simp[KS.of,KC.of,a] at hk
  | some u=>exact ⟨u,rfl⟩
 simp only[Instr.findKey,Sem.run_bind,run_underlying a,Result.andThen_ok];cases b:Instr.findNow u k es 0 with
 | none=>exact d
 | some r =>
  simp only[Sem.run_pure]
  congr 1
  unfold KS.of at hk;split at hk
  ·rename_i i g;rw[g] at a;cases a;cases es with
   | nil=>simpa [Instr.findNow,CX] using b.symm
   | cons e es=>simp[Instr.findNow,Instr.sameNow] at b
  ·obtain ⟨c,f,rfl⟩:=ee.1 hk;have:=Nq f a (k:=k) ha es 0 h;rw[b] at this;exact Option.some.inj this
theorem SF {t:TypeId} {ks:KS} (hk:KS.of P t=some ks) {k:Value} (ha:ks.fits k=true) (em:Bool) (d:Nat):(Instr.checkKey em (d + 3) t k).run P w=.ok () w:=by
 unfold KS.of at hk;split at hk
 ·rename_i g e;split at hk
  ·cases hk
  ·obtain ⟨f,b,rfl⟩:=ee.1 hk;cases k with
   | agg h=>exact Jb (QS 1 d) e (O4 b) (by simpa [KS.fits] using ha)
   | _=>simp[KS.fits] at ha
 ·obtain ⟨c,a,rfl⟩:=ee.1 hk;exact LO a em (d + 2) k
theorem Iy {t:TypeId} {ks:KS} (hk:KS.of P t=some ks) {k:Value} (ha:ks.fits k=true) (em:Bool):(Instr.checkKey em 10000 t k).run P w=.ok () w:=SF hk ha em 9997
end
section
variable {P:Program} {G:Gh} {w:World}
theorem O5:∀ {ds:List D} {vs:List Value},I8 ds=some vs→ds=vs.map .val
 | [],vs,h=>by simp only[I8,Option.some.injEq] at h; subst h; rfl
 | d :: r,vs,h=>by
  cases d with
  | val v =>
   simp only[I8,ee] at h;obtain ⟨l,hl,rfl⟩:=h;rw[O5 hl]; rfl
  | _=>cases h
theorem Jc {y k:Value} {i:D} (hy:V G w y i) (h:keyD i=some k):y=k:=by
 cases i with
 | val v=>cases h; exact V.of_val hy
 | agg g =>
  simp only[keyD,ee] at h;obtain ⟨f,e,rfl⟩:=h;have:=O5 e;subst this;cases hy with
  | agg d c =>
   congr 1
   apply Array.ext
   ·simpa using d
   ·intro i b a;have:=V.of_val (c i _ (.val f[i]) (fD b) (by simp at a; simp[a]));simpa using this
 | _=>cases h
open Classical in
theorem O6 {k:Value}:∀ {l:List MapEntry} {j p:Nat} {v:Value},CX k l j=some (p,v)→∃ i m,p=j + i∧l[i]?=some m∧m.val=v∧m.key=k∧∀ i' m',i' < i→l[i']?=some m'→m'.key≠k
 | [],_,_,_,h=>by simp[CX] at h
 | e :: es,j,p,v,h=>by
  simp only[CX] at h;split at h
  ·rename_i he;cases h;exact ⟨0,e,rfl,rfl,rfl,he.symm,fun i' _ hi=>absurd hi (Nat.not_lt_zero _)⟩
  ·rename_i he;obtain ⟨i,m,h1,h2,h3,h4,h5⟩:=O6 h;refine ⟨i + 1,m,by omega,by simpa using h2,h3,h4,fun i' m' hi hm=>?_⟩;cases i' with
   | zero=>simp only[ey,Option.some.injEq] at hm; subst hm; exact fun e=>he e.symm
   | succ i'=>exact h5 i' m' (by omega) (by simpa using hm)
open Classical in
theorem O7 {k:Value}:∀ {l:List MapEntry} {j:Nat},CX k l j=none→∀ m∈l,m.key≠k
 | [],_,_,m,hm=>by cases hm
 | e :: es,j,h,m,hm=>by
  simp only[CX] at h;split at h
  ·cases h
  ·rename_i he;rcases eq.1 hm with rfl | hm
   ·exact fun e=>he e.symm
   ·exact O7 h m hm
open Classical in
theorem Vf {k:Value} {d:D}:∀ {es:List (Value × D)} {i:Nat},es[i]?=some (k,d)→(∀ i' e,i' < i→es[i']?=some e→e.1≠k)→mget es k=some d
 | [],i,h,_=>by simp at h
 | (k',d') :: r,i,h,hn=>by
  simp only[mget];cases i with
  | zero=>cases h; rw[if_pos rfl]
  | succ i =>
   rw[if_neg (hn 0 _ (iq _) rfl)];exact Vf (by simpa using h) fun i' e _ he=>hn (i' + 1) e (by omega) (by simpa using he)
open Classical in
theorem QT {k:Value}:∀ {es:List (Value × D)},(∀ e∈es,e.1≠k)→mget es k=none
 | [],_=>rfl
 | (k',d') :: r,hn=>by
  simp only[mget];rw[if_neg (hn (k',d') dY)];exact QT fun e he=>hn e (ea _ he)
open Classical in
theorem Vg {k:Value} {d d' : D}:∀ {es:List (Value × D)} {i:Nat},es[i]?=some (k,d')→(∀ i' e,i' < i→es[i']?=some e→e.1≠k)→mput es k d=es.set i (k,d)
 | [],i,h,_=>by simp at h
 | (k',d0) :: r,i,h,hn=>by
  simp only[mput];cases i with
  | zero=>cases h; rw[if_pos rfl]; rfl
  | succ i =>
   rw[if_neg (hn 0 _ (iq _) rfl)];rw[Vg (d':=d') (by simpa using h) fun i' e _ he=>hn (i' + 1) e (by omega) (by simpa using he)]
   rfl
open Classical in
theorem SG {k:Value} {d:D}:∀ {es:List (Value × D)},(∀ e∈es,e.1≠k)→mput es k d=es++[(k,d)]
 | [],_=>rfl
 | (k',d') :: r,hn=>by
  simp only[mput];rw[if_neg (hn (k',d') dY),SG fun e he=>hn e (ea _ he)]
  rfl
def MV (G:Gh) (w:World) (ks:KS) (ms:Array MapEntry) (es:List (Value × D)):Prop :=
 ms.size=es.length∧(∀ (i:Nat) m,ms[i]?=some m→ks.fits m.key=true)∧(∀ (i:Nat) m e,ms[i]?=some m→es[i]?=some e→m.key=e.1)∧∀ (i:Nat) m e,ms[i]?=some m→es[i]?=some e→V G w m.val e.2
theorem MV.fits {ks:KS} {ms:Array MapEntry} {es:List (Value × D)} (h:MV G w ks ms es):∀ e∈ms.toList,ks.fits e.key=true:=fun e he=>by
 obtain ⟨i,hi,rfl⟩:=eT.1 he;exact h.2.1 i _ (by simp at hi; simp[hi])
theorem MV.key {ks:KS} {ms:Array MapEntry} {es:List (Value × D)} (h:MV G w ks ms es) {i:Nat} {m:MapEntry} (hm:ms.toList[i]?=some m):∃ e,es[i]?=some e∧m.key=e.1∧V G w m.val e.2:=by
 have b : ms[i]?=some m:=by simpa using hm
 have a:i < es.length:=by rw[← h.1]; exact (fa.1 b).1
 exact ⟨es[i],dO a,h.2.2.1 i m _ b (dO a),h.2.2.2 i m _ b (dO a)⟩
theorem MV.ent {ks:KS} {ms:Array MapEntry} {es:List (Value × D)} (h:MV G w ks ms es) {i:Nat} {e:Value × D} (he:es[i]?=some e):∃ m,ms.toList[i]?=some m∧m.key=e.1∧V G w m.val e.2:=by
 have a:i < ms.size:=by rw[h.1]; exact (dW.1 he).1
 exact ⟨ms[i],by simp[a],h.2.2.1 i _ e (by simp[a]) he,h.2.2.2 i _ e (by simp[a]) he⟩
theorem MV.find {ks:KS} {ms:Array MapEntry} {es:List (Value × D)} (h:MV G w ks ms es) (k:Value) :
  (CX k ms.toList 0=none∧mget es k=none∧∀ e∈es,e.1≠k)∨∃ i m d,CX k ms.toList 0=some (i,m.val)∧ms[i]?=some m∧m.key=k∧es[i]?=some (k,d)∧mget es k=some d∧V G w m.val d∧∀ i' e,i' < i→es[i']?=some e→e.1≠k:=by
 cases l:CX k ms.toList 0 with
 | none =>
  have o:∀ e∈es,e.1≠k:=fun e a=>by
   obtain ⟨i,c,rfl⟩:=eT.1 a;obtain ⟨m,u,b,_⟩:=h.ent (dO c);rw[← b];exact O7 l m (ew u)
  exact .inl ⟨rfl,QT o,o⟩
 | some p =>
  obtain ⟨p,v⟩:=p;obtain ⟨i,m,z,f,rfl,g,r⟩:=O6 l;obtain rfl:p=i:=by omega
  obtain ⟨⟨q,d⟩,a,b,j⟩:=h.key f;simp only at b j;obtain rfl:q=k:=b.symm.trans g;have n:∀ i' e,i' < p→es[i']?=some e→e.1≠q:=fun i' e c s=>by
   obtain ⟨y,x,t,_⟩:=h.ent s;rw[← t];exact r i' y c x
  exact .inr ⟨p,m,d,rfl,by simpa using f,g,a,Vf a n,j,n⟩
theorem QU {t kt et:TypeId} {ks:KS} {ms:Array MapEntry} {clock r:Nat} {es:List (Value × D)} {k:Value} {ok:Bool} {v:D} (ht:P.underlying t=some (.map kt et)) (hks:KS.of P kt=some ks) (hk:ks.fits k=true)
  (hh:w.heap[r]?=some (.map ms clock)) (hm:MV G w ks ms es) (h:Sp P et ok (mget es k)=some v):∃ z,(Instr.lookup t (.map (some r)) k ok).run P w=.ok z w∧V G w z v:=by
 have a:=Iy (P:=P) (w:=w) hks hk ms.isEmpty;have j:=JC (P:=P) (w:=w) hks hk ms.toList hm.fits;have pair:∀ (x:Value) (d:D) (b:Bool),V G w x d→V G w (if ok then .tuple #[x,.bool b] else x) (okD ok d b):=fun x d b g=>by
  unfold okD;cases ok with
  | false=>exact g
  | true =>
   refine .tup rfl fun i _ _ a c=>?_
   match i,a,c with
   | 0,a,c=>cases a; cases c; exact g
   | 1,a,c=>cases a; cases c; exact .val _
   | i + 2,a,c=>simp at c
 rcases hm.find k with ⟨e,f,_⟩ | ⟨i,m,d,e,f,p,q,l,n,_⟩
 ·rw[f] at h;obtain ⟨z,o,rfl⟩:=ee.1 h;refine ⟨_,?_,pair z (ofV z) false (V.ofV G w z)⟩;simp only[Instr.lookup,Sem.run_bind,run_underlying ht,Result.andThen_ok,MapKept.run_getObj_map hh,Sem.run_pure,a,j,e,Ee o]
 ·rw[l] at h;cases h;refine ⟨_,?_,pair m.val d true n⟩;simp only[Instr.lookup,Sem.run_bind,run_underlying ht,Result.andThen_ok,MapKept.run_getObj_map hh,Sem.run_pure,a,j,e]
theorem V2 {w0:World} {κ:Kp} (ho:Objs w0 G w κ) {t:TypeId} {x y:Value} {d i v:D} {ok:Bool} (hx:V G w x d) (hy:V G w y i) (h:MQ P κ t d i ok=some v):∃ z,(Instr.lookup t x y ok).run P w=.ok z w∧V G w z v:=by
 unfold MQ at h;split at h
 ·rename_i T N F;have j:=LM F;split at h
  ·rename_i Q k f C;obtain rfl:=Jc hy C;split at h
   ·rename_i e;split at h
    ·rename_i R M c;split at h
     ·rename_i E;subst E;unfold OW at c;split at c
      ·rename_i n;split at c
       ·rename_i S es2 J;cases c;obtain ⟨u,K,⟨r,L,m,rfl,g,A,H⟩,_⟩:=ho.ob n _ J;cases hx with
        | mref l =>
         rw[K] at l;cases l;exact QU j f e g H h
       ·cases c
      ·cases c;cases hx with
       | fmap L m O g A o p q s=>exact QU j f e g ⟨o,p,q,s⟩ h
      ·cases c
     ·cases h
    ·split at h
     ·have:=V.of_val hx;subst this;obtain ⟨z,I,rfl⟩:=ee.1 h;have a:=Iy (P:=P) (w:=w) f e true;have B:=JC (P:=P) (w:=w) f e [] (by simp);refine ⟨if ok then .tuple #[z,.bool false] else z,?_,?_⟩
      ·simp only[Instr.lookup,Sem.run_bind,run_underlying j,Result.andThen_ok,Sem.run_pure,Array.isEmpty_empty,a,B,CX,Ee I]
      ·unfold okD;cases ok with
       | false=>exact V.ofV G w z
       | true =>
        refine .tup rfl fun i _ _ a b=>?_
        match i,a,b with
        | 0,a,b=>cases a; cases b; exact V.ofV G w z
        | 1,a,b=>cases a; cases b; exact .val _
        | i + 2,a,b=>simp at b
     ·cases h
   ·cases h
  ·cases h
 ·cases h
theorem YM {w0:World} {κ:Kp} (ho:Objs w0 G w κ) {t ty:TypeId} {x:Value} {d v:D} (hx:V G w x d) (h:lenM P κ t d=some v):∃ z,(Builtin.len_ #[t] ty #[x]).run P w=.ok z w∧V G w z v:=by
 unfold lenM at h;split at h
 ·rename_i F f a;split at h
  ·rename_i g;obtain ⟨⟨I,y⟩,g⟩:=fP.1 g;have p:=LM g;cases h;have i:∀ r (b:Array MapEntry) c,w.heap[r]?=some (.map b c)→b.size=f.length→∃ z,(Builtin.len_ #[t] ty #[.map (some r)]).run P w=.ok z w∧V G w z (.val (.int .i64 f.length)):=fun r b c e o=>by
    refine ⟨.int .i64 f.length,?_,.val _⟩;rw[← o];simp[Builtin.len_,run_underlying p,MapKept.run_getObj_map e]
    rfl
   unfold OW at a;split at a
   ·rename_i n;split at a
    ·rename_i H es2 q;cases a;obtain ⟨u,s,⟨r,b,c,rfl,e,l,m⟩,_⟩:=ho.ob n _ q;cases hx with
     | mref j =>
      rw[s] at j;cases j;exact i r b c e m.1
    ·cases a
   ·cases a;cases hx with
    | fmap b c E e l k A B C=>exact i _ b c e k
   ·cases a
  ·cases h
 ·exact aam hx h
end
theorem SH (a b:ByteArray):(a.toList == b.toList)=decide (a=b):=by
 rw[ge];simp only[beq_iff_eq,decide_eq_true_eq,ByteArray.toList_eq];constructor
 ·intro h;cases a; cases b;simp only at h
  congr
  exact Array.toList_inj.1 h
 ·intro h; rw[h]
section
variable {P:Program} {G:Gh} {w:World}
theorem YN {op:BinOp} {t:TypeId} {a b:Bool} {v:Value} (h:OR P t op a b=some v):(binOp op t (.bool a) (.bool b)).run P w=.ok v w:=by
 unfold OR at h;split at h
 ·rename_i c;have e : P.underlying t=some .bool:=by
   unfold Qe at c; split at c
   ·assumption
   ·cases c
  have d:=run_equal_bool w t a b e;cases op <;> simp only[eqR,Option.some.injEq] at h;all_goals first
   | (cases h; done)
   | (subst h; simp only[binOp,Sem.run_bind,d,Result.andThen_ok,Sem.run_pure]; cases a <;> cases b <;> rfl)
 ·cases h
theorem Vh {op:BinOp} {t:TypeId} {a b:Option Addr} {v:Value} (h:ptrD P t op a b=some v):(binOp op t (.pointer a) (.pointer b)).run P w=.ok v w:=by
 unfold ptrD at h;split at h
 ·split at h
  ·rename_i d;have f : P.underlying t=some (.pointer (P.pointee t)):=by
    unfold Gs at d; split at d
    ·rename_i e c; rw[c]; simp[Program.pointee,c]
    ·cases d
   have c:=run_equal_pointer_nil w t a f;cases op <;> simp only[eqR,Option.some.injEq] at h;all_goals first
    | (cases h; done)
    | (subst h; simp only[binOp,Sem.run_bind,c,Result.andThen_ok,Sem.run_pure])
  ·cases h
 ·cases h
theorem QV {op:BinOp} {t:TypeId} {xo yo:Operand} {a b:Option Addr}:eqGuard op t xo yo (.pointer a) (.pointer b)=pure ():=by
 unfold eqGuard;split <;> rfl
theorem Qg {op:BinOp} {t:TypeId} {xo yo:Operand} {a:Addr} {v:D} (h:(if Gs P t then (eqR op false).map D.val else none)=some v) :
  ∃ z,(do eqGuard op t xo yo (.pointer (some a)) (.pointer none); binOp op t (.pointer (some a)) (.pointer none):Sem Value).run P w=.ok z w∧V G w z v:=by
 split at h
 ·rename_i c;cases b:eqR op false with
  | none=>rw[b] at h; cases h
  | some u =>
   rw[b] at h; cases h;refine ⟨u,?_,.val _⟩;rw[QV];simp only[Sem.run_bind,Sem.run_pure,Result.andThen_ok];refine Vh ?_;simp only[ptrD];rw[if_pos c]; exact b
 ·cases h
theorem CY {op:BinOp} {t:TypeId} {xo yo:Operand} {r:Option Nat} {v:D} (h:(if LK P t then (eqR op r.isNone).map D.val else none)=some v) :
  ∃ z,(do eqGuard op t xo yo (.map r) (.map none); binOp op t (.map r) (.map none):Sem Value).run P w=.ok z w∧V G w z v:=by
 split at h
 ·rename_i b;obtain ⟨e,c,j⟩:∃ e c,P.underlying t=some (.map e c):=by
   unfold LK at b;split at b
   ·exact ⟨_,_,by assumption⟩
   ·cases b
  have i:eqGuard op t xo yo (.map r) (.map none)=pure ():=by
   unfold eqGuard;split <;> cases r <;> rfl
  have f:∀ d:Nat,(Op.equalIn (d + 1) t (.map r) (.map none)).run P w=.ok r.isNone w:=fun d=>by
   cases r <;> simp[Op.equalIn,run_underlying j]
  have g : (Op.equal t (.map r) (.map none)).run P w=.ok r.isNone w:=f 9999;simp only[ee] at h;obtain ⟨u,a,rfl⟩:=h;refine ⟨u,?_,.val _⟩;rw[i];cases op <;> simp only[eqR,Option.some.injEq] at a;all_goals first
   | (cases a; done)
   | (subst a; simp only[Sem.run_bind,Sem.run_pure,Result.andThen_ok,binOp,g])
 ·cases h
theorem aao {op:BinOp} {t:TypeId} {xo yo:Operand} {x y:Value} {d i v:D} (hx:V G w x d) (hy:V G w y i) (h:binD P t op d i=some v) :
    ∃ z,(do eqGuard op t xo yo x y; binOp op t x y:Sem Value).run P w=.ok z w∧V G w z v:=by
  unfold binD at h;split at h
  · rename_i k a J b;have:=V.of_val hx;have:=V.of_val hy
    subst_vars
    split at h
    · rename_i H;subst H;have g:eqGuard op t xo yo (.int k a) (.int k b)=pure ():=by
        unfold eqGuard;split <;> rfl
      cases op <;> simp only[intD] at h;all_goals first
        | (simp at h; done)
        | (simp only[eH,Option.some.injEq] at h
           subst h;refine ⟨_,?_,.val _⟩;simp[g,binOp,Op.intArith,Op.intCmp]
           done)
        | skip
      · split at h
        · simp at h
        · rename_i j;simp only[eH,Option.some.injEq] at h;subst h;exact ⟨_,by simp[g,binOp,Op.intDiv,j],.val _⟩
      · split at h
        · simp at h
        · rename_i j;simp only[eH,Option.some.injEq] at h;subst h;exact ⟨_,by simp[g,binOp,Op.intDiv,j],.val _⟩
      · simp only[eH,Option.some.injEq] at h;subst h;exact ⟨_,by simp[g,binOp,Op.intCmp]; rfl,by rw[show (a == b)=decide (a=b) from by rw[ge]; simp]; exact .val _⟩
      · simp only[eH,Option.some.injEq] at h;subst h;exact ⟨_,by simp[g,binOp,Op.intCmp]; rfl,by rw[show (a != b)=!decide (a=b) from by rw[ge]; simp]; exact .val _⟩
    · cases h
  · rename_i a b;have:=V.of_val hx;have:=V.of_val hy
    subst_vars
    have g:eqGuard op t xo yo (.string a) (.string b)=pure ():=by
      unfold eqGuard;split <;> rfl
    cases op <;> simp only[strD] at h;all_goals first
      | (simp at h; done)
      | (simp only[eH,Option.some.injEq] at h
         subst h;refine ⟨_,?_,.val _⟩;simp[g,binOp,Op.stringOp,SH]
         done)
      | skip
    · split at h
      · rename_i I;simp only[eH,Option.some.injEq] at h;subst h;refine ⟨_,?_,.val _⟩;have:¬ (((a.size + b.size:Nat):Int) > IntKind.i64.max):=by simp[IntKind.max,IntKind.signed,IntKind.bits]; omega
        simp only[g,binOp,Op.stringOp];rw[if_neg this];simp
      · simp at h
  · rename_i a b;have:=V.of_val hx;have:=V.of_val hy
    subst_vars
    have g:eqGuard op t xo yo (.bool a) (.bool b)=pure ():=by
      unfold eqGuard;split <;> rfl
    cases f:OR P t op a b with
    | none=>rw[f] at h; cases h
    | some u =>
      rw[f] at h; cases h;exact ⟨u,by rw[g]; simp only[Sem.run_bind,Sem.run_pure,Result.andThen_ok]; exact YN f,.val _⟩
  · rename_i a b;have:=V.of_val hx;have:=V.of_val hy
    subst_vars
    cases f:ptrD P t op a b with
    | none=>rw[f] at h; cases h
    | some u =>
      rw[f] at h; cases h;exact ⟨u,by rw[QV]; simp only[Sem.run_bind,Sem.run_pure,Result.andThen_ok]; exact Vh f,.val _⟩
  · have:=V.of_val hy;subst this;split at h
    · rename_i e r m f;have o:=BT m;have g:∀ a l c,eqGuard op t xo yo (.slice a l c) (.slice none 0 0)=pure ():=fun a l c=>by
        unfold eqGuard;split <;> rfl
      have n:∀ a l c,∃ b,(do eqGuard op t xo yo (.slice a l c) (.slice none 0 0); binOp op t (.slice a l c) (.slice none 0 0):Sem Value).run P w=.ok (.bool b) w∧(a.isNone=false→r=.bool b):=fun a l c=>by
        have m:=run_equal_slice_nil w t e a l c o;rw[g];cases op <;> simp only[eqR,Option.some.injEq] at f;all_goals first
          | (cases f; done)
          | (subst f; refine ⟨_,by simp only[Sem.run_bind,Sem.run_pure,Result.andThen_ok,binOp,m]; rfl,fun h=>by rw[h]⟩)
      split at h
      · cases h;cases hx with
        | nilsl=>obtain ⟨b,j,_⟩:=n none 0 0; exact ⟨_,j,.unk b⟩
        | esl a=>obtain ⟨b,j,_⟩:=n (some a) 0 0; exact ⟨_,j,.unk b⟩
        | sl X p q s A B C E=>obtain ⟨b,j,_⟩:=n _ _ _; exact ⟨_,j,.unk b⟩
      · cases h;cases hx with
        | sl X p q s A B C E=>obtain ⟨b,j,F⟩:=n _ _ _; exact ⟨_,j,by rw[F rfl]; exact .val _⟩
    · cases h
  · rename_i l c;have:=V.of_val hx;have:=V.of_val hy
    subst_vars
    split at h
    · rename_i e m;have o:=BT m;have g:eqGuard op t xo yo (.slice none l c) (.slice none 0 0)=pure ():=by
        unfold eqGuard;split <;> rfl
      have m:=run_equal_slice_nil w t e none l c o;simp only[ee] at h;obtain ⟨r,f,rfl⟩:=h;refine ⟨r,?_,.val _⟩;rw[g];cases op <;> simp only[eqR,Option.some.injEq] at f;all_goals first
        | (cases f; done)
        | (subst f; simp only[Sem.run_bind,Sem.run_pure,Result.andThen_ok,binOp,m]; rfl)
    · cases h
  · have:=V.of_val hy;subst this;cases hx;exact Qg h
  · have:=V.of_val hy;subst this;cases hx;exact Qg h
  · have:=V.of_val hy;subst this;cases hx;exact Qg h
  · have:=V.of_val hy;subst this;cases hx;exact CY h
  · have:=V.of_val hy;subst this;cases hx;exact CY h
  · have:=V.of_val hy;have:=V.of_val hx
    subst_vars
    exact CY h
  · cases h
theorem abt {op:UnOp} {x:Value} {d v:D} (hx:V G w x d) (h:unD op d=some v):∃ z,(Op.unary op x).run P w=.ok z w∧V G w z v:=by
 unfold unD at h;split at h
 ·split at h
  ·cases h;cases hx with
   | unk b=>exact ⟨.bool (!b),by simp[Op.unary],.unk _⟩
  ·cases h
 ·have:=V.of_val hx;subst this;split at h
  ·cases h; exact ⟨_,by simp[Op.unary],.val _⟩
  ·cases h
 ·have:=V.of_val hx;subst this;split at h
  ·cases h; exact ⟨_,by simp[Op.unary,Op.intArith],.val _⟩
  ·cases h
 ·cases h
theorem Nr:∀ {rows:List D} {ns:List Int},Gt rows=some ns→rows=ns.map fun n=>D.val (.int .u8 n)
 | [],ns,h=>by simp only[Gt,Option.some.injEq] at h; subst h; rfl
 | .val (.int .u8 n) :: r,ns,h=>by
  simp only[Gt] at h;cases hr:Gt r with
  | none=>rw[hr] at h; cases h
  | some l=>rw[hr] at h; cases h; rw[Nr hr]; rfl
theorem RV {t:TypeId} (h:Iv P t=true):∃ e,P.underlying t=some (.slice e)∧P.underlying e=some (.int .u8):=by
 unfold Iv at h;split at h
 ·rename_i e a;split at h
  ·exact ⟨e,a,by assumption⟩
  ·cases h
 ·cases h
theorem V3 {s t:TypeId} {x:Value} {b:Bool} {rows:List D} {v:D} (hx:V G w x (.sl b rows)) (h:(if Iv P s=true∧Hk P t=true then (Gt rows).map fun ns=>D.val (.string (strOfNums ns)) else none)=some v):∃ z,(convert s t x).run P w=.ok z w∧V G w z v:=by
 split at h
 ·rename_i d;obtain ⟨e,f,g⟩:=RV d.1;cases k:Gt rows with
  | none=>rw[k] at h; cases h
  | some ns =>
   rw[k] at h;cases h;have m:=Nr k;refine ⟨_,?_,.val _⟩;cases hx with
   | nilsl =>
    have:ns=[]:=by simpa using m.symm
    subst this;rw[run_convert_bytes_nil w s e f g 0 0 t (FC d.2)]
    rfl
   | esl a =>
    have:ns=[]:=by simpa using m.symm
    subst this;have B:(loadCells a 0).run P w=.ok #[] w:=run_loadCells_list (P:=P) w a [] (fun _ v A=>by simp at A);rw[run_convert_bytes_string w s t e _ 0 0 f g (FC d.2)];simp[Conv.bytesToString,B]
    rfl
   | sl X o C E F r u y =>
    subst m;refine run_convert_bytes_arg w s e f g _ _ _ _ ns (by rw[o]; simp) (fun i p=>?_) t (FC d.2);have q:i < ns.length:=by rw[o] at p; simpa using p
    have l:(ns.map fun n=>D.val (.int .u8 n))[i]?=some (.val (.int .u8 ns[i])):=by simp[q]
    have j:=r i _ l;have j:1=_:=j;have c:=u i _ 0 (.val (.int .u8 ns[i])) l rfl;have v:=V.of_val (y i _ 0 (.val (.int .u8 ns[i])) l rfl);rw[← j,Nat.mul_one,gD,v] at c;rw[c];simp[List.getD,q]
 ·cases h
theorem YO {s t:TypeId} {x:Value} {d v:D} (hx:V G w x d) (h:So P s t d=some v):∃ z,(convert s t x).run P w=.ok z w∧V G w z v:=by
 unfold So at h;split at h
 ·exact V3 hx h
 ·have:=V.of_val hx;subst this;split at h
  ·rename_i k c a;cases h;obtain ⟨u,b⟩:=fP.1 c;unfold Fo at a;split at a
   ·rename_i f e;cases a;refine ⟨_,?_,.val _⟩;simp[convert,run_underlying b,run_underlying e,Conv.intToInt]
   ·cases a
  ·cases h
 ·have:=V.of_val hx;subst this;split at h
  ·rename_i c a;cases h;obtain ⟨u,b⟩:=fP.1 c;refine ⟨_,?_,.val _⟩;simp[convert,run_underlying b,run_underlying (FC a)]
  ·cases h
 ·cases h
theorem aap {o:Oper} {xo:Operand} {ρ:Operand→Value} (hop:o.op=.nilCheck xo) {d v:D} (hx:V G w (ρ xo) d) (h:nilD d=some v):∃ z,(execOp ρ o).run P w=.ok (.value z) w∧V G w z v:=by
 refine ⟨ρ xo,?_,?_⟩
 ·generalize c:ρ xo=x at hx;cases hx with
  | ptr=>simp[execOp,hop,c]
  | aptr=>simp[execOp,hop,c]
  | eptr=>simp[execOp,hop,c]
  | func f g i j =>
   rename_i e _ _ _ _;cases e <;> simp[nilD] at h;simp[execOp,hop,c]
  | _=>simp[nilD] at h
 ·cases d <;> simp[nilD] at h
  case func e a b=>cases e <;> simp at h; subst h; exact hx
  all_goals (subst h; exact hx)
end
end Go.Ab
