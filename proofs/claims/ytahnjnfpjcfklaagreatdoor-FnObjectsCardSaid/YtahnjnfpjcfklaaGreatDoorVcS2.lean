import Derived.Test.YtahnjnfpjcfklaaGreatDoorVcS
import Derived.Test.YtahnjnfpjcfklaaGreatDoorPuBase
namespace Go.Vc
set_option linter.unusedVariables false
set_option linter.unusedSimpArgs false
open Go
section
variable {ψ:CM} {h0 h:Heap} {os:List Ob} {α:Type}
theorem S.ext (st:S ψ h0 h os):ExtH h0 h:=by obtain ⟨φ,L,s,_⟩:=st;exact s.ext
theorem S.le (st:S ψ h0 h os):CLe (hcell h0) (hcell h):=CLe.ext st.ext
theorem S.start (a:CLe ψ (hcell h)):S ψ h h []:=
 ⟨ψ,[],⟨eX h,by simp,by simp [Rws.bs],by simp [Rws.bs],a,by simp [Rws.bs],CLe.refl _,fun _ _ hp _=>hp⟩,rfl⟩
theorem S.read {E g:El α} {cs:List Value} {x:α} (st:S ψ h0 h os) (i:Nat) (l:os[i]?=some (.it E cs x)) (k:Frz E g):g.R (hcell h) [] cs x:=by
 obtain ⟨φ,L,s,r⟩:=st;obtain ⟨u,j,o,a,e,_,_⟩:=r.at l;refine k.2 _ j _ _ (E.mono s.fle e) ?_;have:=s.rows;rw [a] at this;exact this.left.right
theorem S.rdL {E a:El α} {v:Value} {xs:List α} (st:S ψ h0 h os) (i:Nat) (g:os[i]?=some (.it (El.ow E) [v] xs)) (e:Frz E a):SlC (hcell h) a v xs:=
 El.sl_to (st.read i g (ZR e))
theorem S.rdF {E:El α} {v:Value} {xs:List α} (st:S ψ h0 h os) (i:Nat) (a:os[i]?=some (.it (El.sl E) [v] xs)):SlC (hcell h) E v xs:=
 El.sl_to (st.read i a (Zaj E))
theorem S.cells {b:Nat} {cs:List Value} (st:S ψ h0 h os) (i:Nat) (k:os[i]?=some (.box b cs)):CellsC (hcell h) ⟨b,0,none⟩ cs:=by
 obtain ⟨φ,L,s,r⟩:=st;obtain ⟨w,l,x,a,e,_,_⟩:=r.at k;have g:l=[(b,.cs cs)]:=e;intro j u o;rw [Z5,Nat.zero_add];exact s.rows b cs (by rw [a,g];simp) j u o
theorem S.one {E:El α} {cs:List Value} {x:α} (st:S ψ h0 h os) (i:Nat) (g:os[i]?=some (.it E cs x)):∀ v∈cs,v.oneCell'=true:=by
 obtain ⟨φ,L,s,r⟩:=st;obtain ⟨l,j,k,e,a,_,_⟩:=r.at g;exact E.one a
theorem Zy {φ:CM} {E:El α} {v:Value} {xs:List α} (e:SlC φ E v xs) {K:Nat->Prop} (g:K xs.length):vLen v K:=by
 rcases e with ⟨rfl,rfl⟩|⟨a,c,rfl,_⟩<;>exact g
def AddrOf (v:Value) (i:Int) (z:Nat) (p:Addr):Prop:=∃ a n c,v=.slice (some a) n c/\p=a.add (i.toNat*z)
theorem ZV {φ:CM} {E:El α} {v:Value} {xs:List α} {i:Int} {x:α} {z:Nat} (j:SlC φ E v xs) (hi:gIdx xs i=some x) {K:Addr->Prop} (k:∀ p,AddrOf v i z p->K p):vIdx v i z K:=by
 obtain ⟨h1,e⟩:=ZaK hi;have g:=Z0 e;rcases j with ⟨rfl,rfl⟩|⟨a,c,rfl,_⟩
 ·simp at g
 ·exact ⟨⟨h1,by omega⟩,k _ ⟨a,_,c,rfl,rfl⟩⟩
theorem SlC.cells {φ:CM} {E:El α} {v:Value} {xs:List α} {i:Int} {x:α} {p:Addr} {z:Nat} (j:SlC φ E v xs) (hp:AddrOf v i z p) (hi:gIdx xs i=some x) (hz:E.z=z):∃ cs,CellsC φ p cs/\E.R φ [] cs x:=by
 obtain ⟨h1,f⟩:=ZaK hi;obtain ⟨a,n,c,rfl,rfl⟩:=hp;rcases j with ⟨e,_⟩|⟨a',c',e,_,g⟩
 ·cases e
 ·cases e;subst hz;exact g _ _ f
theorem ldI_C {k:IntKind} {v:Value} {xs:List Int} {i x:Int} {p:Addr} (e:SlC (hcell h) (El.int k) v xs) (hp:AddrOf v i 1 p) (hi:gIdx xs i=some x) {K:Int->Prop} (g:K x):ldI k h p K:=by
 obtain ⟨cs,h1,a⟩:=e.cells hp hi rfl;exact ⟨x,h1 0 _ (by rw [a.2];rfl),g⟩
theorem ldB_C {v:Value} {xs:List Bool} {i:Int} {x:Bool} {p:Addr} (e:SlC (hcell h) El.bool v xs) (hp:AddrOf v i 1 p) (hi:gIdx xs i=some x) {K:Bool->Prop} (g:K x):ldB h p K:=by
 obtain ⟨cs,h1,a⟩:=e.cells hp hi rfl;exact ⟨x,h1 0 _ (by rw [a.2];rfl),g⟩
theorem ldS_C {v:Value} {xs:List ByteArray} {i:Int} {x:ByteArray} {p:Addr} (e:SlC (hcell h) El.str v xs) (hp:AddrOf v i 1 p) (hi:gIdx xs i=some x) {K:ByteArray->Prop} (g:K x):ldS h p K:=by
 obtain ⟨cs,h1,a⟩:=e.cells hp hi rfl;exact ⟨x,h1 0 _ (by rw [a.2];rfl),g⟩
theorem ldV_C {e:CM} {E:El α} {v:Value} {xs:List (List α)} {i:Int} {x:List α} {p:Addr} (j:SlC e (El.sl E) v xs) (g:CLe e (hcell h)) (hp:AddrOf v i 1 p) (hi:gIdx xs i=some x) {K:Value->Prop} (k:∀ u,SlC e E u x->K u):ldV h p K:=by
 obtain ⟨cs,h1,_,u,rfl,a⟩:=j.cells hp hi rfl;exact ⟨u,g _ _ (h1 0 _ rfl),k u a⟩
theorem ZtF {E:El α} {v:Value} {xs:List (List α)} {i:Int} {x:List α} {p:Addr} (st:S ψ h0 h os) (k:Nat) (g:os[k]?=some (.it (El.sl (El.sl E)) [v] xs)) (hp:AddrOf v i 1 p) (hi:gIdx xs i=some x) {K:Value->Prop}
  (j:∀ u,S ψ h0 h (.it (El.sl E) [u] x::os)->K u):ldV h p K:=by
 obtain ⟨φ,L,s,r⟩:=st;obtain ⟨l,o,w,f,a,_,_⟩:=r.at g;obtain ⟨cs,h1,h0,u,rfl,e⟩:=(El.sl_to a).cells hp hi rfl;exact ⟨u,s.fle _ _ (h1 0 _ rfl),j u ⟨φ,L,s,[],L,rfl,El.sl_of e,r⟩⟩
theorem Zb9 {E:El α} {v:Value} {xs:List (List α)} {i:Int} {x:List α} {p:Addr} (st:S ψ h0 h os) (k:Nat) (ho:os[k]?=some (.it (El.ow (El.sl E)) [v] xs)) (hp:AddrOf v i 1 p) (hi:gIdx xs i=some x) {K:Value->Prop}
  (hk:∀ u,S ψ h0 h (.it (El.sl E) [u] x::os)->K u):ldV h p K:=by
 obtain ⟨g1,e⟩:=ZaK hi;obtain ⟨φ,L,s,r⟩:=st;obtain ⟨L1,Lo,L2,j,l,_,_⟩:=r.at ho;rcases El.ow_to l with ⟨_,rfl,_⟩|⟨b,c,pre,css,rest,Lr,o,f2,f3,w,f⟩
 ·simp at e
 ·obtain ⟨d,M1,Mo,M2,pr,po,k1,g,k3,k4,_⟩:=f.at e;obtain ⟨ac,u,rfl,h2⟩:=k4;obtain ⟨a,n,c',rfl,rfl⟩:=hp;cases o;refine ⟨u,?_,hk u ⟨φ,L,s,[],L,rfl,El.sl_of h2,r⟩⟩;rw [Z5];refine s.rows b (pre++css.flatten++rest) (by rw [j,w];simp) _ _ ?_;have a3:∀ (q:List (List Value)) (y:List (List α)) (M:Rws),AllR φ (El.sl E) M (q++[u]::po) y->q.flatten.length=q.length:=by
   intro q;induction q with
   | nil=>intros;simp
   | cons q0 q ih=>
    intro y M hy;cases y with
    | nil=>exact hy.elim
    | cons y0 y=>
     obtain ⟨_,_,_,z2,z3⟩:=hy;have:=(El.sl E).len z2;rw [List.flatten_cons,List.length_append,this,ih y _ z3,List.length_cons];show 1+_=_;omega
  have:=a3 pr xs Lr (by rw [<-g];exact f);rw [g,List.append_assoc,List.getElem?_append_right ω,Nat.add_sub_cancel_left,List.flatten_append,List.append_assoc,List.getElem?_append_right ω,List.flatten_cons];rw [this,k3,Nat.mul_one,Nat.sub_self];rfl
theorem ldI_K {k:IntKind} {p a:Addr} {cs:List Value} {x:Int} (hp:CellsC (hcell h) p cs) (j:Nat) (g:a=p.add j) (e:cs[j]?=some (.int k x)) {K:Int->Prop} (l:K x):ldI k h a K:=by
 subst g;exact ⟨x,hp j _ e,l⟩
theorem ldB_K {p a:Addr} {cs:List Value} {x:Bool} (hp:CellsC (hcell h) p cs) (j:Nat) (g:a=p.add j) (e:cs[j]?=some (.bool x)) {K:Bool->Prop} (k:K x):ldB h a K:=by
 subst g;exact ⟨x,hp j _ e,k⟩
theorem ldS_K {p a:Addr} {cs:List Value} {x:ByteArray} (hp:CellsC (hcell h) p cs) (j:Nat) (g:a=p.add j) (e:cs[j]?=some (.string x)) {K:ByteArray->Prop} (k:K x):ldS h a K:=by
 subst g;exact ⟨x,hp j _ e,k⟩
theorem ldP_K {p a:Addr} {cs:List Value} {x:Addr} (hp:CellsC (hcell h) p cs) (j:Nat) (g:a=p.add j) (e:cs[j]?=some (.pointer (some x))) {K:Addr->Prop} (k:K x):ldP h a K:=by
 subst g;exact ⟨x,hp j _ e,k⟩
theorem ldV_K {p a:Addr} {cs:List Value} {x:Value} (hp:CellsC (hcell h) p cs) (j:Nat) (g:a=p.add j) (e:cs[j]?=some x) {K:Value->Prop} (k:K x):ldV h a K:=by
 subst g;exact ⟨x,hp j _ e,k⟩
theorem S.put {o:Ob} (st:S ψ h0 h os) (a:∀ φ,o.ok φ []):S ψ h0 h (o::os):=by
 obtain ⟨φ,L,s,r⟩:=st;exact ⟨φ,L,s,[],L,rfl,a φ,r⟩
theorem S.nil (E:El α) (st:S ψ h0 h os):S ψ h0 h (.it (El.ow E) [.slice none 0 0] []::os):=st.put fun _=>⟨_,rfl,.inl ⟨rfl,rfl,rfl⟩⟩
theorem S.erase (st:S ψ h0 h os) (i:Nat):S ψ h0 h (os.eraseIdx i):=by
 obtain ⟨φ,L,s,r⟩:=st;cases ho:os[i]? with
 | none=>
  rw [List.getElem?_eq_none_iff] at ho;rw [List.eraseIdx_of_length_le ho];exact ⟨φ,L,s,r⟩
 | some o=>
  obtain ⟨j,k,g,a,_,e,_⟩:=r.at ho;refine ⟨φ,j++g,s.sub ?_,e⟩;rw [a];exact List.Sublist.append (List.sublist_append_left ..) (List.Sublist.refl _)
theorem S.pull {o:Ob} (st:S ψ h0 h os) (i:Nat) (l:os[i]?=some o):S ψ h0 h (o::os.eraseIdx i):=by
 obtain ⟨φ,L,s,r⟩:=st;obtain ⟨k,g,j,a,e,f,_⟩:=r.at l;refine ⟨φ,g++(k++j),s.perm ?_,g,k++j,rfl,e,f⟩;rw [a,<-List.append_assoc];exact List.Perm.append_right _ List.perm_append_comm
theorem S.freeze {E u:El α} {cs:List Value} {x:α} (st:S ψ h0 h os) (i:Nat) (ho:os[i]?=some (.it E cs x)) (hf:Frz E u):S ψ h0 h (os.set i (.it u cs x)):=by
 obtain ⟨φ,L,s,r⟩:=st;obtain ⟨w,Lo,L2,e,f,_,g⟩:=r.at ho;have j:S0 ψ h0 h φ (Lo++(w++L2)):=s.perm (by rw [e,<-List.append_assoc];exact List.Perm.append_right _ List.perm_append_comm);obtain ⟨o,a,k,l⟩:=j.freeze;refine ⟨o,w++[]++L2,by simpa using l,g o (.it u cs x) [] a ?_⟩;exact hf.2 _ _ _ _ (E.mono a f) k
theorem new_S (st:S ψ h0 h os) {cs:List Value} {t:TypeId} {K:Addr->Heap->Prop} (e:∀ b a,S ψ h0 a (.box b cs::os)->K ⟨b,0,none⟩ a):vNew h (.cells cs.toArray t) K:=by
 refine vNew.mk ?_;obtain ⟨φ,L,s,r⟩:=st;exact e _ _ ⟨φ,_,s.new cs t,[(h.size,.cs cs)],L,rfl,rfl,r⟩
theorem ZcI (st:S ψ h0 h os) (i:Nat) {a:Addr} {b j:Nat} {cs:List Value} {v:Value} {K:Heap->Prop} (ha:a=⟨b,j,none⟩) (x:os[i]?=some (.box b cs)) (w:(cs[j]?).isSome=true) (h1:v.oneCell'=true)
  (hk:∀ l,S ψ h0 l (os.set i (.box b (cs.set j v)))->K l):vStore1 h a v K:=by
 obtain ⟨φ,L,s,r⟩:=st;obtain ⟨k,Lo,L2,e,f,_,g⟩:=r.at x;have u:Lo=[(b,.cs cs)]:=f;subst u;have o:L[k.length]?=some (b,.cs cs):=by rw [e];simp
 refine Zrw s.sta k.length ha o w h1 fun l t=>hk l ⟨φ,_,s.of_sta' t (ZhT o),?_⟩;have:L.set k.length (b,Row.cs (cs.set j v))=k++[(b,Row.cs (cs.set j v))]++L2:=by rw [e];simp
 rw [this];exact g φ _ _ (CLe.refl _) rfl
theorem AllR.nils {φ:CM} {E:El α} {css:List (List Value)} {xs:List α} (g:css.length=xs.length) (h:∀ (i:Nat) c x,css[i]?=some c->xs[i]?=some x->E.R φ [] c x):AllR φ E [] css xs:=by
 induction css generalizing xs with
 | nil=>
  cases xs with
  | nil=>rfl
  | cons x xs=>simp at g
 | cons c css l=>
  cases xs with
  | nil=>simp at g
  | cons x xs=>exact ⟨[],[],rfl,h 0 c x rfl rfl,l (by simpa using g) fun i k j a e=>h (i+1) k j (by simpa using a) (by simpa using e)⟩
theorem ZP {E:El α} {css:List (List Value)} {xs:List α} (st:S ψ h0 h os) {cs:List Value} {t:TypeId} {n:Nat} (j:∀ φ,AllR φ E [] css xs) (a:css.flatten=cs) (e:xs.length=n) {K:Value->Heap->Prop}
  (k:∀ v g,S ψ h0 g (.it (El.ow E) [v] xs::os)->K v g):vNewS h (.cells cs.toArray t) n K:=by
 refine vNewS.mk ?_;obtain ⟨φ,L,s,r⟩:=st;subst e;subst a;refine k _ _ ⟨φ,_,s.new css.flatten t,[(h.size,.cs css.flatten)],L,rfl,⟨_,rfl,.inr ⟨h.size,xs.length,[],css,[],[],rfl,Nat.le_refl _,by simp,by simp,j φ⟩⟩,r⟩
theorem Zwn (n:Nat) (z:List Value):repl n z=(List.replicate n z).flatten:=by
 induction n with
 | zero=>rfl
 | succ n a=>rw [repl,a,List.replicate_succ,List.flatten_cons]
theorem ZqN {E:El α} {bytes:Nat} {zero:List Value} {el:TypeId} {n c:Int} {xs:List α} (st:S ψ h0 h os) (hz:zero=E.zc) (o:gMake bytes E.zx n c=some xs) {K:Value->Heap->Prop}
  (u:∀ v j,S ψ h0 j (.it (El.ow E) [v] xs::os)->K v j):vMake bytes zero el n c h K:=by
 obtain ⟨g,rfl⟩:=Zz0 o;subst hz;refine ⟨g,?_⟩;obtain ⟨φ,L,s,r⟩:=st;refine u _ _ ⟨φ,_,s.new (repl c.toNat E.zc) el,[(h.size,.cs (repl c.toNat E.zc))],L,rfl,⟨_,rfl,.inr ⟨h.size,c.toNat,[],List.replicate n.toNat E.zc,repl (c.toNat-n.toNat) E.zc,[],?_,?_,?_,?_,?_⟩⟩,r⟩
 ·simp [hnew]
 ·simp;omega
 ·rw [Zhw,List.length_replicate,E.len (E.hz φ)];exact Nat.le_refl _
 ·rw [<-Zwn,List.nil_append];have:∀ a b:Nat,repl (a+b) E.zc=repl a E.zc++repl b E.zc:=by
   intro a b;induction a with
   | zero=>simp [repl]
   | succ a l=>rw [Nat.add_right_comm,repl,l,repl,List.append_assoc]
  rw [<-this,show n.toNat+(c.toNat-n.toNat)=c.toNat by omega]
 ·refine AllR.nils (by simp) fun i x w e f=>?_;rw [List.getElem?_replicate] at e f;split at e
  ·rename_i k;rw [if_pos k] at f;cases e;cases f;exact E.hz φ
  ·cases e
theorem ZhP {E:El α} {φ:CM} {bytes z:Nat} {zero:List Value} {el:TypeId} {rows M:Rws} {v a6:Value} {xs:List α} {m:Nat} {news:List Value} {K:Value->Heap->Prop}
  (s:S0 ψ h0 h φ (rows++M)) (ho:OwnL φ E rows v xs) (hz:E.z=z) (f:zero.length=z) (i:(a6=.slice none 0 0/\m=0)\/∃ a c,a6=.slice (some a) m c/\∀ j u,news[j]?=some u->hcell h (a.add j)=some u)
  (ab:news.length=m*z) (h1:∀ v∈news,v.oneCell'=true) (g:(xs.length+m)*bytes<=140737488355328) (hl:xs.length+m<=4611686018427387904)
  (hk:∀ v' a5 h',S0 ψ h0 h' φ (a5++M)->(∀ Mn r ys,AllR φ E Mn r ys->r.flatten=news->ys.length=m->OwnL φ E (a5++Mn) v' (xs++ys))->K v' h'):vAppend z bytes zero el v a6 h K:=by
 subst hz;have am:∃ sa mc,a6=.slice sa m mc/\(∀ j u,news[j]?=some u->∃ a,sa=some a/\hcell h (a.add j)=some u)/\(sa=none->m=0):=by
  rcases i with ⟨rfl,rfl⟩|⟨a,c,rfl,k⟩
  ·exact ⟨none,0,rfl,(fun j u hu=>by have:=Z0 hu;omega),fun _=>rfl⟩
  ·exact ⟨some a,c,rfl,fun j u hu=>⟨a,rfl,k j u hu⟩,(fun h=>by cases h)⟩
 obtain ⟨sa,mc,rfl,a8,ad⟩:=am;rcases ho with ⟨rfl,rfl,rfl⟩|⟨b,c,pre,css,rest,Lr,rfl,o,hrest,rfl,hall⟩
 ·refine ⟨[],news,by simp,ab,(fun j u hu=>by simp at hu),a8,fun _=>rfl,ad,by simpa using g,by simpa using hl,(fun _ a ha=>by cases ha),fun al _=>?_,fun ao a2 ae ak=>?_⟩
  ·obtain rfl:m=0:=ω;refine hk _ [] h s fun Mn r ys e hf w=>?_;obtain rfl:ys=[]:=List.eq_nil_of_length_eq_zero w;have:r=[]:=List.eq_nil_of_length_eq_zero (by rw [e.length];rfl);subst this;have:Mn=[]:=e;subst this;exact .inl ⟨rfl,rfl,rfl⟩
  ·refine hk _ [(h.size,.cs ([]++news++repl (a2-(0+m)) zero))] _ (s.new _ el) fun Mn r ys e hf w=>.inr ⟨h.size,a2,[],r,repl (a2-(0+m)) zero,Mn,?_,?_,?_,?_,e⟩
   ·simp [hnew,w]
   ·simp [w];omega
   ·rw [Zhw,f];simp [w]
   ·rw [hf];simp
 ·have ac:=hall.flat;refine ⟨css.flatten,news,by rw [ac],ab,fun j u hu=>⟨_,rfl,?_⟩,a8,(fun h=>by cases h),ad,g,hl,fun al a ha=>?_,(fun _ h=>by cases h),fun ao a2 ae ak=>?_⟩
  ·rw [Z5];refine s.rows b _ (List.mem_append_left _ (List.mem_cons_self ..)) _ _ ?_;rw [List.append_assoc,List.getElem?_append_right ω,Nat.add_sub_cancel_left,List.getElem?_append_left (Z0 hu)];exact hu
  ·cases ha;refine ⟨h1,?_⟩;rw [Z5];have ar:m*E.z<=rest.length:=by
    refine Nat.le_trans (Nat.mul_le_mul_right _ ?_) hrest;omega
   have sm:Sta h0 h ((b,.cs ((pre++css.flatten)++rest.take (m*E.z)++rest.drop (m*E.z)))::(Lr++M)) fun x=>CLe φ (hcell x):=by
    have:=s.sta;simpa using this
   refine ZgS news (rest.take (m*E.z)) (pre++css.flatten) _ 0 h _ (by rw [List.length_append,ac];rfl) (by rw [List.length_take];omega) h1 sm fun h' t=>?_;refine hk _ ((b,.cs (pre++css.flatten++news++rest.drop (m*E.z)))::Lr) _ (s.of_sta' t rfl) fun Mn r ys e hf w=>.inr ⟨b,c,pre,css++r,rest.drop (m*E.z),Lr++Mn,?_,?_,?_,?_,e.app hall⟩
   ·simp [w]
   ·simp [w];omega
   ·rw [List.length_drop,List.length_append,w];have:(c-(xs.length+m))*E.z=(c-xs.length)*E.z-m*E.z:=by rw [<-Nat.sub_sub,Nat.sub_mul]
    omega
   ·rw [List.flatten_append,hf];simp
  ·have l:=s.new (css.flatten++news++repl (a2-(xs.length+m)) zero) el;refine hk _ ((h.size,.cs (css.flatten++news++repl (a2-(xs.length+m)) zero))::Lr) _ (l.sub ?_) fun Mn r ys e hf w=>.inr ⟨h.size,a2,[],css++r,repl (a2-(xs.length+m)) zero,Lr++Mn,?_,?_,?_,?_,e.app hall⟩
   ·exact List.Sublist.cons_cons _ (List.sublist_cons_self ..)
   ·simp [hnew,w]
   ·simp [w];omega
   ·rw [Zhw,f,List.length_append,w];exact Nat.le_refl _
   ·rw [List.flatten_append,hf];simp
def Src (ψ:CM) (h0 h:Heap) (os:List Ob) (E:El α) (u:Value) (g:List α):Prop:=
 ∀ φ L,S0 ψ h0 h φ L->Rel φ os L->∃ e,AllR φ E [] e g/\((u=.slice none 0 0/\g.length=0)\/∃ a c,u=.slice (some a) g.length c/\∀ (j:Nat) w,e.flatten[j]?=some w->hcell h (a.add j)=some w)
theorem ZnK {τ φ:CM} {E:El α} {u:Value} {ys:List α} (hs:(u=.slice none 0 0/\ys=[])\/∃ a c,u=.slice (some a) ys.length c/\∀ (i:Nat) x,ys[i]?=some x->∃ cs,CellsC τ (a.add (i*E.z)) cs/\E.R φ [] cs x):
  ∃ a2,AllR φ E [] a2 ys/\((u=.slice none 0 0/\ys.length=0)\/∃ a c,u=.slice (some a) ys.length c/\∀ (j:Nat) w,a2.flatten[j]?=some w->τ (a.add j)=some w):=by
 rcases hs with ⟨rfl,rfl⟩|⟨a,c,rfl,f⟩
 ·exact ⟨[],rfl,.inl ⟨rfl,rfl⟩⟩
 ·suffices hs:∀ (l:List α) (k:Nat),(∀ (i:Nat) x,l[i]?=some x->∃ cs,CellsC τ (a.add ((k+i)*E.z)) cs/\E.R φ [] cs x) ->
    ∃ a2,AllR φ E [] a2 l/\∀ (j:Nat) w,a2.flatten[j]?=some w->τ (a.add (k*E.z+j))=some w by
   obtain ⟨a2,h1,g⟩:=hs ys 0 (by simpa using f);exact ⟨a2,h1,.inr ⟨a,c,rfl,by simpa using g⟩⟩
  intro l;induction l with
  | nil=>intro k _;exact ⟨[],rfl,fun j w hw=>by simp at hw⟩
  | cons x l ih=>
   intro k hh;obtain ⟨cs,o,e⟩:=hh 0 x rfl;obtain ⟨a2,r,s⟩:=ih (k+1) fun i y hy=>by
    have:=hh (i+1) y (by simpa using hy);rwa [show k+(i+1)=k+1+i by omega] at this
   refine ⟨cs::a2,⟨[],[],rfl,e,r⟩,fun j w hw=>?_⟩;have hl:=E.len e;rw [List.flatten_cons] at hw;by_cases hj:j<cs.length
   ·rw [List.getElem?_append_left hj] at hw;have:=o j w hw;rwa [Zel,Nat.add_zero] at this
   ·rw [List.getElem?_append_right ω] at hw;have:=s _ w hw;rwa [Nat.add_mul,show k*E.z+1*E.z+(j-cs.length)=k*E.z+j by omega] at this
def Plain (E:El α):Prop:=∀ φ ψ L cs x,E.R φ L cs x->L=[]/\E.R ψ [] cs x
theorem ZdK (k:IntKind):Plain (El.int k):=fun _ _ _ _ _ h=>⟨h.1,rfl,h.2⟩
theorem Zf3 {E:El α} {u:Value} {k:List α} (hp:Plain E) (hs:SlC (hcell h) E u k):Src ψ h0 h os E u k:=by
 intro φ L _ _;refine ZnK ?_;rcases hs with hs|⟨a,c,h1,_,e⟩
 ·exact .inl hs
 ·exact .inr ⟨a,c,h1,fun i x f=>by obtain ⟨cs,g,j⟩:=e i x f;exact ⟨cs,g,(hp _ φ _ _ _ j).2⟩⟩
theorem ZnS {E:El α} {u:Value} {o:List α} (i:Nat) (w:os[i]?=some (.it (El.sl E) [u] o)):Src ψ h0 h os E u o:=by
 intro φ L s r;obtain ⟨L1,Lo,L2,l,e,_,_⟩:=r.at w;refine ZnK ?_;rcases El.sl_to e with hs|⟨a,c,h1,_,f⟩
 ·exact .inl hs
 ·exact .inr ⟨a,c,h1,fun i x g=>by obtain ⟨cs,j,k⟩:=f i x g;exact ⟨cs,j.mono s.fle,k⟩⟩
theorem app_S {E:El α} {bytes z:Nat} {zero:List Value} {el:TypeId} {v u:Value} {xs ys zs:List α} (st:S ψ h0 h os) (i:Nat) (ho:os[i]?=some (.it (El.ow E) [v] xs)) (hs:Src ψ h0 h os E u ys) (hz:E.z=z) (f:zero.length=z) (k:gApp bytes xs ys=some zs)
  {K:Value->Heap->Prop} (hk:∀ v' h',S ψ h0 h' (os.set i (.it (El.ow E) [v'] zs))->K v' h'):vAppend z bytes zero el v u h K:=by
 obtain ⟨⟨g,j⟩,rfl⟩:=ZcS k;obtain ⟨φ,L,s,r⟩:=st;obtain ⟨a6,e,a8⟩:=hs φ L s r;obtain ⟨L1,Lo,L2,l,o,_,w⟩:=r.at ho;have x:S0 ψ h0 h φ (Lo++(L1++L2)):=s.perm (by rw [l,<-List.append_assoc];exact List.Perm.append_right _ List.perm_append_comm);refine ZhP (news:=a6.flatten) (m:=ys.length) x (El.ow_to o) hz f ?_ (by rw [e.flat,hz]) e.one g j fun v' a2 h' y a7=>hk v' h' ?_
 ·rcases a8 with h|⟨a,c,h1,h2⟩
  ·exact .inl h
  ·exact .inr ⟨a,c,h1,h2⟩
 ·refine ⟨φ,L1++a2++L2,y.perm ?_,w φ (.it (El.ow E) [v'] (xs++ys)) a2 (CLe.refl _) ⟨v',rfl,?_⟩⟩
  ·rw [<-List.append_assoc];exact List.Perm.append_right _ List.perm_append_comm
  ·have:=a7 [] a6 ys e rfl rfl;simpa using this
theorem Ztx {E:El α} {φ:CM} {bytes z:Nat} {zero cs:List Value} {t el:TypeId} {rows w M:Rws} {v:Value} {xs:List α} {y:α} {K:Value->Heap->Value->Heap->Prop}
  (s:S0 ψ h0 h φ (rows++M)) (ho:OwnL φ E rows v xs) (hy:E.R φ w cs y) (hz:E.z=z) (a:zero.length=z) (i:gApp bytes xs [y]=some (xs++[y]))
  (hk:∀ {u h1} x o r,S0 ψ h0 r φ (o++M)->OwnL φ E (o++w) x (xs++[y])->K u h1 x r):vNewS h (.cells cs.toArray t) 1 fun u r=>vAppend z bytes zero el v u r (K u r):=by
 refine vNewS.mk ?_;obtain ⟨⟨e,f⟩,_⟩:=ZcS i;have g:=s.new cs t;have k:S0 ψ h0 (h.push (.cells cs.toArray t)) φ (rows++M):=g.sub (List.sublist_cons_self ..);have hl:=E.len hy;show vAppend z bytes zero el v (.slice (some (hnew h)) 1 1) (h.push (.cells cs.toArray t)) (K _ _);refine ZhP (m:=1) (news:=cs) k ho hz a (.inr ⟨_,1,rfl,fun j u hu=>?_⟩) ω (E.one hy) e f fun x o r l a2=>hk x o r l (a2 w [cs] [y] ⟨w,[],by simp,hy,rfl⟩ (by simp) rfl);rw [hnew,Z5,Nat.zero_add];exact g.rows _ _ (List.mem_cons_self ..) _ _ hu
theorem ZhU {E:El α} {bytes z:Nat} {zero cs:List Value} {t el:TypeId} {v:Value} {xs zs:List α} {y:α} (st:S ψ h0 h os) (i:Nat) (ho:os[i]?=some (.it (El.ow E) [v] xs)) (hy:∀ φ,E.R φ [] cs y) (hz:E.z=z) (a:zero.length=z) (e:gApp bytes xs [y]=some zs)
  {K:Value->Heap->Value->Heap->Prop} (hk:∀ {u h1} x o,S ψ h0 o (os.set i (.it (El.ow E) [x] zs))->K u h1 x o):vNewS h (.cells cs.toArray t) 1 fun u o=>vAppend z bytes zero el v u o (K u o):=by
 obtain ⟨_,rfl⟩:=ZcS e;obtain ⟨φ,L,s,r⟩:=st;obtain ⟨L1,Lo,L2,f,g,_,j⟩:=r.at ho;have k:S0 ψ h0 h φ (Lo++(L1++L2)):=s.perm (by rw [f,<-List.append_assoc];exact List.Perm.append_right _ List.perm_append_comm);refine Ztx k (El.ow_to g) (hy φ) hz a e fun x w o l a2=>hk x o ⟨φ,L1++w++L2,l.perm ?_,j φ (.it (El.ow E) [x] (xs++[y])) w (CLe.refl _) ⟨x,rfl,by simpa using a2⟩⟩;rw [<-List.append_assoc];exact List.Perm.append_right _ List.perm_append_comm
theorem Zbw {E:El α} {bytes z:Nat} {zero cs:List Value} {t el:TypeId} {v:Value} {xs zs:List α} {y:α} (st:S ψ h0 h (.it E cs y::os)) (i:Nat) (ho:os[i]?=some (.it (El.ow E) [v] xs)) (hz:E.z=z) (f:zero.length=z) (g:gApp bytes xs [y]=some zs)
  {K:Value->Heap->Value->Heap->Prop} (hk:∀ {u h1} v' h',S ψ h0 h' (os.set i (.it (El.ow E) [v'] zs))->K u h1 v' h'):vNewS h (.cells cs.toArray t) 1 fun u h'=>vAppend z bytes zero el v u h' (K u h'):=by
 obtain ⟨_,rfl⟩:=ZcS g;obtain ⟨φ,L,s,Ly,L',rfl,hy,r⟩:=st;obtain ⟨x,Lo,L2,rfl,j,_,k⟩:=r.at ho;have l:S0 ψ h0 h φ (Lo++(x++Ly++L2)):=s.perm (by
  have h1:(Ly++(x++Lo++L2)).Perm ((x++Lo++L2)++Ly):=List.perm_append_comm;refine h1.trans ?_;have a:(x++Lo).Perm (Lo++x):=List.perm_append_comm;have e:(x++Lo++L2++Ly).Perm (Lo++x++L2++Ly):=(a.append_right L2).append_right Ly;refine e.trans ?_;simp only [List.append_assoc];exact (List.perm_append_comm (l₁:=L2) (l₂:=Ly)).append_left x |>.append_left Lo)
 refine Ztx l (El.ow_to j) hy hz f g fun v' w h' o a7=>hk v' h' ⟨φ,x++(w++Ly)++L2,o.perm ?_,k φ (.it (El.ow E) [v'] (xs++[y])) (w++Ly) (CLe.refl _) ⟨v',rfl,a7⟩⟩;have a:(w++x).Perm (x++w):=List.perm_append_comm;have e:=(a.append_right Ly).append_right L2;simpa using e
end
end Go.Vc
