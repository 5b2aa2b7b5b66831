import Derived.Test.YtdmledeildfidaaGreatDoorVcS
import Derived.Test.YtdmledeildfidaaGreatDoorPuBase
namespace Go.Vc
set_option linter.unusedVariables false
set_option linter.unusedSimpArgs false
open Go
section
variable {ψ:CM} {h0 h:Heap} {os:List Ob} {α:Type}
theorem S.ext (st:S ψ h0 h os):ExtH h0 h:=by obtain ⟨a,L,s,_⟩:=st;exact s.ext
theorem S.le (st:S ψ h0 h os):CLe (hcell h0) (hcell h):=CLe.ext st.ext
theorem sZ (a:CLe ψ (hcell h)):S ψ h h []:=
 ⟨ψ,[],⟨eX h,by simp,by simp [Rws.bs],by simp [Rws.bs],a,by simp [Rws.bs],CLe.refl _,fun _ _ hp _=>hp⟩,rfl⟩
theorem S.read {E e:El α} {cs:List Value} {x:α} (st:S ψ h0 h os) (i:Nat) (j:os[i]?=some (.it E cs x)) (g:Frz E e):e.R (hcell h) [] cs x:=by
 obtain ⟨l,L,s,r⟩:=st;obtain ⟨u,k,o,a,c,_,_⟩:=r.at j;refine g.2 _ k _ _ (E.mono s.fle c) ?_;have:=s.rows;rw [a] at this;exact this.left.right
theorem S.rdL {E a:El α} {v:Value} {xs:List α} (st:S ψ h0 h os) (i:Nat) (g:os[i]?=some (.it (El.ow E) [v] xs)) (e:Frz E a):SlC (hcell h) a v xs:=
 El.sl_to (st.read i g (ZL e))
theorem S.rdF {E:El α} {v:Value} {xs:List α} (st:S ψ h0 h os) (i:Nat) (a:os[i]?=some (.it (El.sl E) [v] xs)):SlC (hcell h) E v xs:=
 El.sl_to (st.read i a (Zah E))
theorem S.cells {b:Nat} {cs:List Value} (st:S ψ h0 h os) (i:Nat) (k:os[i]?=some (.box b cs)):CellsC (hcell h) ⟨b,0,none⟩ cs:=by
 obtain ⟨x,L,s,r⟩:=st;obtain ⟨w,l,o,a,c,_,_⟩:=r.at k;have e:l=[(b,.cs cs)]:=c;intro j u g;rw [ZP,Nat.zero_add];exact s.rows b cs (by rw [a,e];simp) j u g
theorem S.one {E:El α} {cs:List Value} {x:α} (st:S ψ h0 h os) (i:Nat) (e:os[i]?=some (.it E cs x)):∀ v∈cs,v.oneCell'=true:=by
 obtain ⟨j,L,s,r⟩:=st;obtain ⟨k,l,g,c,a,_,_⟩:=r.at e;exact E.one a
theorem Zi {e:CM} {E:El α} {v:Value} {xs:List α} (g:SlC e E v xs) {K:Nat->Prop} (j:K xs.length):vLen v K:=by
 rcases g with ⟨rfl,rfl⟩|⟨a,c,rfl,_⟩<;>exact j
def AddrOf (v:Value) (i:Int) (z:Nat) (p:Addr):Prop:=∃ a n c,v=.slice (some a) n c/\p=a.add (i.toNat*z)
theorem ZZ {g:CM} {E:El α} {v:Value} {xs:List α} {i:Int} {x:α} {z:Nat} (j:SlC g E v xs) (hi:gIdx xs i=some x) {K:Addr->Prop} (l:∀ p,AddrOf v i z p->K p):vIdx v i z K:=by
 obtain ⟨h1,e⟩:=Zax hi;have k:=ZY e;rcases j with ⟨rfl,rfl⟩|⟨a,c,rfl,_⟩
 ·simp at k
 ·exact ⟨⟨h1,by omega⟩,l _ ⟨a,_,c,rfl,rfl⟩⟩
theorem SlC.cells {j:CM} {E:El α} {v:Value} {xs:List α} {i:Int} {x:α} {p:Addr} {z:Nat} (k:SlC j E v xs) (hp:AddrOf v i z p) (hi:gIdx xs i=some x) (hz:E.z=z):∃ cs,CellsC j p cs/\E.R j [] cs x:=by
 obtain ⟨h1,f⟩:=Zax hi;obtain ⟨a,n,c,rfl,rfl⟩:=hp;rcases k with ⟨e,_⟩|⟨a',c',e,_,g⟩
 ·cases e
 ·cases e;subst hz;exact g _ _ f
theorem ldI_C {k:IntKind} {v:Value} {xs:List Int} {i x:Int} {p:Addr} (e:SlC (hcell h) (El.int k) v xs) (hp:AddrOf v i 1 p) (hi:gIdx xs i=some x) {K:Int->Prop} (g:K x):ldI k h p K:=by
 obtain ⟨cs,h1,a⟩:=e.cells hp hi rfl;exact ⟨x,h1 0 _ (by rw [a.2];rfl),g⟩
theorem ldB_C {v:Value} {xs:List Bool} {i:Int} {x:Bool} {p:Addr} (e:SlC (hcell h) El.bool v xs) (hp:AddrOf v i 1 p) (hi:gIdx xs i=some x) {K:Bool->Prop} (g:K x):ldB h p K:=by
 obtain ⟨cs,h1,a⟩:=e.cells hp hi rfl;exact ⟨x,h1 0 _ (by rw [a.2];rfl),g⟩
theorem ldS_C {v:Value} {xs:List ByteArray} {i:Int} {x:ByteArray} {p:Addr} (e:SlC (hcell h) El.str v xs) (hp:AddrOf v i 1 p) (hi:gIdx xs i=some x) {K:ByteArray->Prop} (g:K x):ldS h p K:=by
 obtain ⟨cs,h1,a⟩:=e.cells hp hi rfl;exact ⟨x,h1 0 _ (by rw [a.2];rfl),g⟩
theorem ldV_C {e:CM} {E:El α} {v:Value} {xs:List (List α)} {i:Int} {x:List α} {p:Addr} (j:SlC e (El.sl E) v xs) (g:CLe e (hcell h)) (hp:AddrOf v i 1 p) (hi:gIdx xs i=some x) {K:Value->Prop} (k:∀ u,SlC e E u x->K u):ldV h p K:=by
 obtain ⟨cs,h1,_,u,rfl,a⟩:=j.cells hp hi rfl;exact ⟨u,g _ _ (h1 0 _ rfl),k u a⟩
theorem Zo0 {E:El α} {v:Value} {xs:List (List α)} {i:Int} {x:List α} {p:Addr} (st:S ψ h0 h os) (k:Nat) (l:os[k]?=some (.it (El.sl (El.sl E)) [v] xs)) (hp:AddrOf v i 1 p) (hi:gIdx xs i=some x) {K:Value->Prop}
  (g:∀ u,S ψ h0 h (.it (El.sl E) [u] x::os)->K u):ldV h p K:=by
 obtain ⟨j,L,s,r⟩:=st;obtain ⟨w,Lo,o,e,a,_,_⟩:=r.at l;obtain ⟨cs,h1,h0,u,rfl,c⟩:=(El.sl_to a).cells hp hi rfl;exact ⟨u,s.fle _ _ (h1 0 _ rfl),g u ⟨j,L,s,[],L,rfl,El.sl_of c,r⟩⟩
theorem ZaN {E:El α} {v:Value} {xs:List (List α)} {i:Int} {x:List α} {p:Addr} (st:S ψ h0 h os) (k:Nat) (ho:os[k]?=some (.it (El.ow (El.sl E)) [v] xs)) (hp:AddrOf v i 1 p) (hi:gIdx xs i=some x) {K:Value->Prop}
  (hk:∀ u,S ψ h0 h (.it (El.sl E) [u] x::os)->K u):ldV h p K:=by
 obtain ⟨g1,e⟩:=Zax hi;obtain ⟨φ,L,s,r⟩:=st;obtain ⟨L1,Lo,L2,g,j,_,_⟩:=r.at ho;rcases El.ow_to j with ⟨_,rfl,_⟩|⟨b,c,pre,css,rest,Lr,l,f2,f3,o,f⟩
 ·simp at e
 ·obtain ⟨d,M1,Mo,M2,pr,po,k1,k2,k3,w,_⟩:=f.at e;obtain ⟨aa,u,rfl,h2⟩:=w;obtain ⟨a,n,c',rfl,rfl⟩:=hp;cases l;refine ⟨u,?_,hk u ⟨φ,L,s,[],L,rfl,El.sl_of h2,r⟩⟩;rw [ZP];refine s.rows b (pre++css.flatten++rest) (by rw [g,o];simp) _ _ ?_;have a0:∀ (q:List (List Value)) (y:List (List α)) (M:Rws),AllR φ (El.sl E) M (q++[u]::po) y->q.flatten.length=q.length:=by
   intro q;induction q with
   | nil=>intros;simp
   | cons q0 q ih=>
    intro y M hy;cases y with
    | nil=>exact hy.elim
    | cons y0 y=>
     obtain ⟨_,_,_,z2,z3⟩:=hy;have:=(El.sl E).len z2;rw [List.flatten_cons,List.length_append,this,ih y _ z3,List.length_cons];show 1+_=_;omega
  have:=a0 pr xs Lr (by rw [<-k2];exact f);rw [k2,List.append_assoc,List.getElem?_append_right ω,Nat.add_sub_cancel_left,List.flatten_append,List.append_assoc,List.getElem?_append_right ω,List.flatten_cons];rw [this,k3,Nat.mul_one,Nat.sub_self];rfl
theorem ldI_K {k:IntKind} {p a:Addr} {cs:List Value} {x:Int} (hp:CellsC (hcell h) p cs) (j:Nat) (e:a=p.add j) (c:cs[j]?=some (.int k x)) {K:Int->Prop} (g:K x):ldI k h a K:=by
 subst e;exact ⟨x,hp j _ c,g⟩
theorem ldB_K {p a:Addr} {cs:List Value} {x:Bool} (hp:CellsC (hcell h) p cs) (j:Nat) (e:a=p.add j) (c:cs[j]?=some (.bool x)) {K:Bool->Prop} (g:K x):ldB h a K:=by
 subst e;exact ⟨x,hp j _ c,g⟩
theorem ldS_K {p a:Addr} {cs:List Value} {x:ByteArray} (hp:CellsC (hcell h) p cs) (j:Nat) (e:a=p.add j) (c:cs[j]?=some (.string x)) {K:ByteArray->Prop} (g:K x):ldS h a K:=by
 subst e;exact ⟨x,hp j _ c,g⟩
theorem ldP_K {p a:Addr} {cs:List Value} {x:Addr} (hp:CellsC (hcell h) p cs) (j:Nat) (e:a=p.add j) (c:cs[j]?=some (.pointer (some x))) {K:Addr->Prop} (g:K x):ldP h a K:=by
 subst e;exact ⟨x,hp j _ c,g⟩
theorem ldV_K {p a:Addr} {cs:List Value} {x:Value} (hp:CellsC (hcell h) p cs) (j:Nat) (e:a=p.add j) (c:cs[j]?=some x) {K:Value->Prop} (g:K x):ldV h a K:=by
 subst e;exact ⟨x,hp j _ c,g⟩
theorem S.put {o:Ob} (st:S ψ h0 h os) (e:∀ a,o.ok a []):S ψ h0 h (o::os):=by
 obtain ⟨a,L,s,r⟩:=st;exact ⟨a,L,s,[],L,rfl,e a,r⟩
theorem S.nil (E:El α) (st:S ψ h0 h os):S ψ h0 h (.it (El.ow E) [.slice none 0 0] []::os):=st.put fun _=>⟨_,rfl,.inl ⟨rfl,rfl,rfl⟩⟩
theorem S.erase (st:S ψ h0 h os) (i:Nat):S ψ h0 h (os.eraseIdx i):=by
 obtain ⟨e,L,s,r⟩:=st;cases ho:os[i]? with
 | none=>
  rw [List.getElem?_eq_none_iff] at ho;rw [List.eraseIdx_of_length_le ho];exact ⟨e,L,s,r⟩
 | some o=>
  obtain ⟨j,k,g,a,_,c,_⟩:=r.at ho;refine ⟨e,j++g,s.sub ?_,c⟩;rw [a];exact List.Sublist.append (List.sublist_append_left ..) (List.Sublist.refl _)
theorem S.pull {o:Ob} (st:S ψ h0 h os) (i:Nat) (u:os[i]?=some o):S ψ h0 h (o::os.eraseIdx i):=by
 obtain ⟨l,L,s,r⟩:=st;obtain ⟨j,k,g,a,c,e,_⟩:=r.at u;refine ⟨l,k++(j++g),s.perm ?_,k,j++g,rfl,c,e⟩;rw [a,<-List.append_assoc];exact List.Perm.append_right _ List.perm_append_comm
theorem S.freeze {E l:El α} {cs:List Value} {x:α} (st:S ψ h0 h os) (i:Nat) (ho:os[i]?=some (.it E cs x)) (w:Frz E l):S ψ h0 h (os.set i (.it l cs x)):=by
 obtain ⟨φ,L,s,r⟩:=st;obtain ⟨u,Lo,o,c,e,_,f⟩:=r.at ho;have s2:S0 ψ h0 h φ (Lo++(u++o)):=s.perm (by rw [c,<-List.append_assoc];exact List.Perm.append_right _ List.perm_append_comm);obtain ⟨k,a,g,j⟩:=s2.freeze;refine ⟨k,u++[]++o,by simpa using j,f k (.it l cs x) [] a ?_⟩;exact w.2 _ _ _ _ (E.mono a e) g
theorem new_S (st:S ψ h0 h os) {cs:List Value} {t:TypeId} {K:Addr->Heap->Prop} (g:∀ b a,S ψ h0 a (.box b cs::os)->K ⟨b,0,none⟩ a):vNew h (.cells cs.toArray t) K:=by
 refine vNew.mk ?_;obtain ⟨e,L,s,r⟩:=st;exact g _ _ ⟨e,_,s.new cs t,[(h.size,.cs cs)],L,rfl,rfl,r⟩
theorem Zf7 (st:S ψ h0 h os) (i:Nat) {a:Addr} {b j:Nat} {cs:List Value} {v:Value} {K:Heap->Prop} (x:a=⟨b,j,none⟩) (ho:os[i]?=some (.box b cs)) (w:(cs[j]?).isSome=true) (h1:v.oneCell'=true)
  (hk:∀ k,S ψ h0 k (os.set i (.box b (cs.set j v)))->K k):vStore1 h a v K:=by
 obtain ⟨o,L,s,r⟩:=st;obtain ⟨g,Lo,L2,c,e,_,f⟩:=r.at ho;have l:Lo=[(b,.cs cs)]:=e;subst l;have u:L[g.length]?=some (b,.cs cs):=by rw [c];simp
 refine Zts s.sta g.length x u w h1 fun k t=>hk k ⟨o,_,s.of_sta' t (Zmb u),?_⟩;have:L.set g.length (b,Row.cs (cs.set j v))=g++[(b,Row.cs (cs.set j v))]++L2:=by rw [c];simp
 rw [this];exact f o _ _ (CLe.refl _) rfl
theorem AllR.nils {j:CM} {E:El α} {css:List (List Value)} {xs:List α} (g:css.length=xs.length) (h:∀ (i:Nat) c x,css[i]?=some c->xs[i]?=some x->E.R j [] c x):AllR j E [] css xs:=by
 induction css generalizing xs with
 | nil=>
  cases xs with
  | nil=>rfl
  | cons x xs=>simp at g
 | cons c css k=>
  cases xs with
  | nil=>simp at g
  | cons x xs=>exact ⟨[],[],rfl,h 0 c x rfl rfl,k (by simpa using g) fun i o l a e=>h (i+1) o l (by simpa using a) (by simpa using e)⟩
theorem ZaJ {E:El α} {css:List (List Value)} {xs:List α} (st:S ψ h0 h os) {cs:List Value} {t:TypeId} {n:Nat} (j:∀ e,AllR e E [] css xs) (a:css.flatten=cs) (c:xs.length=n) {K:Value->Heap->Prop}
  (k:∀ v g,S ψ h0 g (.it (El.ow E) [v] xs::os)->K v g):vNewS h (.cells cs.toArray t) n K:=by
 refine vNewS.mk ?_;obtain ⟨e,L,s,r⟩:=st;subst c;subst a;refine k _ _ ⟨e,_,s.new css.flatten t,[(h.size,.cs css.flatten)],L,rfl,⟨_,rfl,.inr ⟨h.size,xs.length,[],css,[],[],rfl,Nat.le_refl _,by simp,by simp,j e⟩⟩,r⟩
theorem Zxz (n:Nat) (z:List Value):repl n z=(List.replicate n z).flatten:=by
 induction n with
 | zero=>rfl
 | succ n a=>rw [repl,a,List.replicate_succ,List.flatten_cons]
theorem Zq7 {E:El α} {bytes:Nat} {zero:List Value} {el:TypeId} {n c:Int} {xs:List α} (st:S ψ h0 h os) (hz:zero=E.zc) (u:gMake bytes E.zx n c=some xs) {K:Value->Heap->Prop}
  (o:∀ v l,S ψ h0 l (.it (El.ow E) [v] xs::os)->K v l):vMake bytes zero el n c h K:=by
 obtain ⟨g,rfl⟩:=ZBW u;subst hz;refine ⟨g,?_⟩;obtain ⟨j,L,s,r⟩:=st;refine o _ _ ⟨j,_,s.new (repl c.toNat E.zc) el,[(h.size,.cs (repl c.toNat E.zc))],L,rfl,⟨_,rfl,.inr ⟨h.size,c.toNat,[],List.replicate n.toNat E.zc,repl (c.toNat-n.toNat) E.zc,[],?_,?_,?_,?_,?_⟩⟩,r⟩
 ·simp [hnew]
 ·simp;omega
 ·rw [Zge,List.length_replicate,E.len (E.hz j)];exact Nat.le_refl _
 ·rw [<-Zxz,List.nil_append];have:∀ a b:Nat,repl (a+b) E.zc=repl a E.zc++repl b E.zc:=by
   intro a b;induction a with
   | zero=>simp [repl]
   | succ a w=>rw [Nat.add_right_comm,repl,w,repl,List.append_assoc]
  rw [<-this,show n.toNat+(c.toNat-n.toNat)=c.toNat by omega]
 ·refine AllR.nils (by simp) fun i x x' e f=>?_;rw [List.getElem?_replicate] at e f;split at e
  ·rename_i k;rw [if_pos k] at f;cases e;cases f;exact E.hz j
  ·cases e
theorem ZoI {E:El α} {φ:CM} {bytes z:Nat} {zero:List Value} {el:TypeId} {rows M:Rws} {v a4:Value} {xs:List α} {m:Nat} {news:List Value} {K:Value->Heap->Prop}
  (s:S0 ψ h0 h φ (rows++M)) (ho:OwnL φ E rows v xs) (hz:E.z=z) (f:zero.length=z) (i:(a4=.slice none 0 0/\m=0)\/∃ a c,a4=.slice (some a) m c/\∀ j u,news[j]?=some u->hcell h (a.add j)=some u)
  (ab:news.length=m*z) (h1:∀ v∈news,v.oneCell'=true) (g:(xs.length+m)*bytes<=140737488355328) (hl:xs.length+m<=4611686018427387904)
  (hk:∀ v' a3 h',S0 ψ h0 h' φ (a3++M)->(∀ Mn o ys,AllR φ E Mn o ys->o.flatten=news->ys.length=m->OwnL φ E (a3++Mn) v' (xs++ys))->K v' h'):vAppend z bytes zero el v a4 h K:=by
 subst hz;have al:∃ sa mc,a4=.slice sa m mc/\(∀ j u,news[j]?=some u->∃ a,sa=some a/\hcell h (a.add j)=some u)/\(sa=none->m=0):=by
  rcases i with ⟨rfl,rfl⟩|⟨a,c,rfl,k⟩
  ·exact ⟨none,0,rfl,(fun j u hu=>by have:=ZY hu;omega),fun _=>rfl⟩
  ·exact ⟨some a,c,rfl,fun j u hu=>⟨a,rfl,k j u hu⟩,(fun h=>by cases h)⟩
 obtain ⟨sa,mc,rfl,a7,aa⟩:=al;rcases ho with ⟨rfl,rfl,rfl⟩|⟨b,c,pre,css,rest,Lr,rfl,l,hrest,rfl,hall⟩
 ·refine ⟨[],news,by simp,ab,(fun j u hu=>by simp at hu),a7,fun _=>rfl,aa,by simpa using g,by simpa using hl,(fun _ a ha=>by cases ha),fun aj _=>?_,fun ai w ae ak=>?_⟩
  ·obtain rfl:m=0:=ω;refine hk _ [] h s fun Mn o ys e hf r=>?_;obtain rfl:ys=[]:=List.eq_nil_of_length_eq_zero r;have:o=[]:=List.eq_nil_of_length_eq_zero (by rw [e.length];rfl);subst this;have:Mn=[]:=e;subst this;exact .inl ⟨rfl,rfl,rfl⟩
  ·refine hk _ [(h.size,.cs ([]++news++repl (w-(0+m)) zero))] _ (s.new _ el) fun Mn o ys e hf r=>.inr ⟨h.size,w,[],o,repl (w-(0+m)) zero,Mn,?_,?_,?_,?_,e⟩
   ·simp [hnew,r]
   ·simp [r];omega
   ·rw [Zge,f];simp [r]
   ·rw [hf];simp
 ·have ac:=hall.flat;refine ⟨css.flatten,news,by rw [ac],ab,fun j u hu=>⟨_,rfl,?_⟩,a7,(fun h=>by cases h),aa,g,hl,fun aj a ha=>?_,(fun _ h=>by cases h),fun ai w ae ak=>?_⟩
  ·rw [ZP];refine s.rows b _ (List.mem_append_left _ (List.mem_cons_self ..)) _ _ ?_;rw [List.append_assoc,List.getElem?_append_right ω,Nat.add_sub_cancel_left,List.getElem?_append_left (ZY hu)];exact hu
  ·cases ha;refine ⟨h1,?_⟩;rw [ZP];have aq:m*E.z<=rest.length:=by
    refine Nat.le_trans (Nat.mul_le_mul_right _ ?_) hrest;omega
   have sm:Sta h0 h ((b,.cs ((pre++css.flatten)++rest.take (m*E.z)++rest.drop (m*E.z)))::(Lr++M)) fun x=>CLe φ (hcell x):=by
    have:=s.sta;simpa using this
   refine Ze8 news (rest.take (m*E.z)) (pre++css.flatten) _ 0 h _ (by rw [List.length_append,ac];rfl) (by rw [List.length_take];omega) h1 sm fun h' t=>?_;refine hk _ ((b,.cs (pre++css.flatten++news++rest.drop (m*E.z)))::Lr) _ (s.of_sta' t rfl) fun Mn o ys e hf r=>.inr ⟨b,c,pre,css++o,rest.drop (m*E.z),Lr++Mn,?_,?_,?_,?_,e.app hall⟩
   ·simp [r]
   ·simp [r];omega
   ·rw [List.length_drop,List.length_append,r];have:(c-(xs.length+m))*E.z=(c-xs.length)*E.z-m*E.z:=by rw [<-Nat.sub_sub,Nat.sub_mul]
    omega
   ·rw [List.flatten_append,hf];simp
  ·have s2:=s.new (css.flatten++news++repl (w-(xs.length+m)) zero) el;refine hk _ ((h.size,.cs (css.flatten++news++repl (w-(xs.length+m)) zero))::Lr) _ (s2.sub ?_) fun Mn o ys e hf r=>.inr ⟨h.size,w,[],css++o,repl (w-(xs.length+m)) zero,Lr++Mn,?_,?_,?_,?_,e.app hall⟩
   ·exact List.Sublist.cons_cons _ (List.sublist_cons_self ..)
   ·simp [hnew,r]
   ·simp [r];omega
   ·rw [Zge,f,List.length_append,r];exact Nat.le_refl _
   ·rw [List.flatten_append,hf];simp
def Src (ψ:CM) (h0 h:Heap) (os:List Ob) (E:El α) (u:Value) (g:List α):Prop:=
 ∀ k L,S0 ψ h0 h k L->Rel k os L->∃ e,AllR k E [] e g/\((u=.slice none 0 0/\g.length=0)\/∃ a c,u=.slice (some a) g.length c/\∀ (j:Nat) w,e.flatten[j]?=some w->hcell h (a.add j)=some w)
theorem ZvD {τ φ:CM} {E:El α} {u:Value} {ys:List α} (hs:(u=.slice none 0 0/\ys=[])\/∃ a c,u=.slice (some a) ys.length c/\∀ (i:Nat) x,ys[i]?=some x->∃ cs,CellsC τ (a.add (i*E.z)) cs/\E.R φ [] cs x):
  ∃ a0,AllR φ E [] a0 ys/\((u=.slice none 0 0/\ys.length=0)\/∃ a c,u=.slice (some a) ys.length c/\∀ (j:Nat) w,a0.flatten[j]?=some w->τ (a.add j)=some w):=by
 rcases hs with ⟨rfl,rfl⟩|⟨a,c,rfl,f⟩
 ·exact ⟨[],rfl,.inl ⟨rfl,rfl⟩⟩
 ·suffices hs:∀ (l:List α) (k:Nat),(∀ (i:Nat) x,l[i]?=some x->∃ cs,CellsC τ (a.add ((k+i)*E.z)) cs/\E.R φ [] cs x) ->
    ∃ a0,AllR φ E [] a0 l/\∀ (j:Nat) w,a0.flatten[j]?=some w->τ (a.add (k*E.z+j))=some w by
   obtain ⟨a0,h1,g⟩:=hs ys 0 (by simpa using f);exact ⟨a0,h1,.inr ⟨a,c,rfl,by simpa using g⟩⟩
  intro l;induction l with
  | nil=>intro k _;exact ⟨[],rfl,fun j w hw=>by simp at hw⟩
  | cons x l ih=>
   intro k hh;obtain ⟨cs,o,e⟩:=hh 0 x rfl;obtain ⟨a0,r,s⟩:=ih (k+1) fun i y hy=>by
    have:=hh (i+1) y (by simpa using hy);rwa [show k+(i+1)=k+1+i by omega] at this
   refine ⟨cs::a0,⟨[],[],rfl,e,r⟩,fun j w hw=>?_⟩;have hl:=E.len e;rw [List.flatten_cons] at hw;by_cases hj:j<cs.length
   ·rw [List.getElem?_append_left hj] at hw;have:=o j w hw;rwa [ZeL,Nat.add_zero] at this
   ·rw [List.getElem?_append_right ω] at hw;have:=s _ w hw;rwa [Nat.add_mul,show k*E.z+1*E.z+(j-cs.length)=k*E.z+j by omega] at this
def Plain (E:El α):Prop:=∀ a ψ L cs x,E.R a L cs x->L=[]/\E.R ψ [] cs x
theorem Zbi (k:IntKind):Plain (El.int k):=fun _ _ _ _ _ h=>⟨h.1,rfl,h.2⟩
theorem ZbT {E:El α} {u:Value} {k:List α} (hp:Plain E) (hs:SlC (hcell h) E u k):Src ψ h0 h os E u k:=by
 intro l L _ _;refine ZvD ?_;rcases hs with hs|⟨a,c,h1,_,e⟩
 ·exact .inl hs
 ·exact .inr ⟨a,c,h1,fun i x f=>by obtain ⟨cs,g,j⟩:=e i x f;exact ⟨cs,g,(hp _ l _ _ _ j).2⟩⟩
theorem Zqb {E:El α} {u:Value} {o:List α} (i:Nat) (w:os[i]?=some (.it (El.sl E) [u] o)):Src ψ h0 h os E u o:=by
 intro φ L s r;obtain ⟨L1,Lo,L2,l,e,_,_⟩:=r.at w;refine ZvD ?_;rcases El.sl_to e with hs|⟨a,c,h1,_,f⟩
 ·exact .inl hs
 ·exact .inr ⟨a,c,h1,fun i x g=>by obtain ⟨cs,j,k⟩:=f i x g;exact ⟨cs,j.mono s.fle,k⟩⟩
theorem app_S {E:El α} {bytes z:Nat} {zero:List Value} {el:TypeId} {v u:Value} {xs ys zs:List α} (st:S ψ h0 h os) (i:Nat) (ho:os[i]?=some (.it (El.ow E) [v] xs)) (hs:Src ψ h0 h os E u ys) (hz:E.z=z) (f:zero.length=z) (k:gApp bytes xs ys=some zs)
  {K:Value->Heap->Prop} (hk:∀ v' h',S ψ h0 h' (os.set i (.it (El.ow E) [v'] zs))->K v' h'):vAppend z bytes zero el v u h K:=by
 obtain ⟨⟨g,j⟩,rfl⟩:=Zdw k;obtain ⟨φ,L,s,r⟩:=st;obtain ⟨a5,e,a7⟩:=hs φ L s r;obtain ⟨L1,Lo,L2,l,o,_,w⟩:=r.at ho;have s2:S0 ψ h0 h φ (Lo++(L1++L2)):=s.perm (by rw [l,<-List.append_assoc];exact List.Perm.append_right _ List.perm_append_comm);refine ZoI (news:=a5.flatten) (m:=ys.length) s2 (El.ow_to o) hz f ?_ (by rw [e.flat,hz]) e.one g j fun v' a0 h' x a6=>hk v' h' ?_
 ·rcases a7 with h|⟨a,c,h1,y⟩
  ·exact .inl h
  ·exact .inr ⟨a,c,h1,y⟩
 ·refine ⟨φ,L1++a0++L2,x.perm ?_,w φ (.it (El.ow E) [v'] (xs++ys)) a0 (CLe.refl _) ⟨v',rfl,?_⟩⟩
  ·rw [<-List.append_assoc];exact List.Perm.append_right _ List.perm_append_comm
  ·have:=a6 [] a5 ys e rfl rfl;simpa using this
theorem ZuH {E:El α} {o:CM} {bytes z:Nat} {zero cs:List Value} {t el:TypeId} {rows w M:Rws} {v:Value} {xs:List α} {y:α} {K:Value->Heap->Value->Heap->Prop}
  (s:S0 ψ h0 h o (rows++M)) (ho:OwnL o E rows v xs) (hy:E.R o w cs y) (hz:E.z=z) (a:zero.length=z) (f:gApp bytes xs [y]=some (xs++[y]))
  (hk:∀ {u h1} r k l,S0 ψ h0 l o (k++M)->OwnL o E (k++w) r (xs++[y])->K u h1 r l):vNewS h (.cells cs.toArray t) 1 fun u l=>vAppend z bytes zero el v u l (K u l):=by
 refine vNewS.mk ?_;obtain ⟨⟨c,e⟩,_⟩:=Zdw f;have s1:=s.new cs t;have s2:S0 ψ h0 (h.push (.cells cs.toArray t)) o (rows++M):=s1.sub (List.sublist_cons_self ..);have hl:=E.len hy;show vAppend z bytes zero el v (.slice (some (hnew h)) 1 1) (h.push (.cells cs.toArray t)) (K _ _);refine ZoI (m:=1) (news:=cs) s2 ho hz a (.inr ⟨_,1,rfl,fun j u hu=>?_⟩) ω (E.one hy) c e fun r k l g x=>hk r k l g (x w [cs] [y] ⟨w,[],by simp,hy,rfl⟩ (by simp) rfl);rw [hnew,ZP,Nat.zero_add];exact s1.rows _ _ (List.mem_cons_self ..) _ _ hu
theorem ZaY {E:El α} {bytes z:Nat} {zero cs:List Value} {t el:TypeId} {v:Value} {xs zs:List α} {y:α} (st:S ψ h0 h os) (i:Nat) (ho:os[i]?=some (.it (El.ow E) [v] xs)) (hy:∀ w,E.R w [] cs y) (hz:E.z=z) (a:zero.length=z) (c:gApp bytes xs [y]=some zs)
  {K:Value->Heap->Value->Heap->Prop} (hk:∀ {u h1} o k,S ψ h0 k (os.set i (.it (El.ow E) [o] zs))->K u h1 o k):vNewS h (.cells cs.toArray t) 1 fun u k=>vAppend z bytes zero el v u k (K u k):=by
 obtain ⟨_,rfl⟩:=Zdw c;obtain ⟨w,L,s,r⟩:=st;obtain ⟨L1,Lo,L2,e,f,_,g⟩:=r.at ho;have s2:S0 ψ h0 h w (Lo++(L1++L2)):=s.perm (by rw [e,<-List.append_assoc];exact List.Perm.append_right _ List.perm_append_comm);refine ZuH s2 (El.ow_to f) (hy w) hz a c fun o l k j x=>hk o k ⟨w,L1++l++L2,j.perm ?_,g w (.it (El.ow E) [o] (xs++[y])) l (CLe.refl _) ⟨o,rfl,by simpa using x⟩⟩;rw [<-List.append_assoc];exact List.Perm.append_right _ List.perm_append_comm
theorem Zdp {E:El α} {bytes z:Nat} {zero cs:List Value} {t el:TypeId} {v:Value} {xs zs:List α} {y:α} (st:S ψ h0 h (.it E cs y::os)) (i:Nat) (ho:os[i]?=some (.it (El.ow E) [v] xs)) (hz:E.z=z) (e:zero.length=z) (f:gApp bytes xs [y]=some zs)
  {K:Value->Heap->Value->Heap->Prop} (hk:∀ {u h1} v' h',S ψ h0 h' (os.set i (.it (El.ow E) [v'] zs))->K u h1 v' h'):vNewS h (.cells cs.toArray t) 1 fun u h'=>vAppend z bytes zero el v u h' (K u h'):=by
 obtain ⟨_,rfl⟩:=Zdw f;obtain ⟨φ,L,s,w,L',rfl,hy,r⟩:=st;obtain ⟨o,Lo,x,rfl,g,_,j⟩:=r.at ho;have s2:S0 ψ h0 h φ (Lo++(o++w++x)):=s.perm (by
  have h1:(w++(o++Lo++x)).Perm ((o++Lo++x)++w):=List.perm_append_comm;refine h1.trans ?_;have a:(o++Lo).Perm (Lo++o):=List.perm_append_comm;have c:(o++Lo++x++w).Perm (Lo++o++x++w):=(a.append_right x).append_right w;refine c.trans ?_;simp only [List.append_assoc];exact (List.perm_append_comm (l₁:=x) (l₂:=w)).append_left o |>.append_left Lo)
 refine ZuH s2 (El.ow_to g) hy hz e f fun v' l h' k a3=>hk v' h' ⟨φ,o++(l++w)++x,k.perm ?_,j φ (.it (El.ow E) [v'] (xs++[y])) (l++w) (CLe.refl _) ⟨v',rfl,a3⟩⟩;have a:(l++o).Perm (o++l):=List.perm_append_comm;have c:=(a.append_right w).append_right x;simpa using c
end
end Go.Vc
