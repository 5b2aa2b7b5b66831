import Derived.Test.YtepnljbkgjbbmaaGreatDoorVcCl
open Go.IntKind renaming i64->ε
namespace Go.Vc
set_option linter.unusedVariables false
set_option linter.unusedSimpArgs false
open Go
section
variable {ψ:CM} {h0 h:Heap} {os:List Ob} {α:Type}
theorem ZC5 {a:Option Addr} {n c:Nat} {K:Nat->Prop} (e:K n):vLen (.slice a n c) K:=e
theorem ZGu {a:Option Addr} {n c:Nat} {K:Nat->Prop} (e:K c):vCap (.slice a n c) K:=e
theorem OwnL.len {e:CM} {E:El α} {L:Rws} {v:Value} {xs:List α} (h:OwnL e E L v xs) {K:Nat->Prop} (a:K xs.length):vLen v K:=by
 rcases h with ⟨rfl,rfl,_⟩|⟨b,c,pre,css,rest,Lr,rfl,_⟩
 ·exact a
 ·exact a
theorem OwnL.slLo {l:CM} {E:El α} {L:Rws} {v:Value} {xs:List α} (h:OwnL l E L v xs) {z a:Nat} (k:a<=xs.length) {K:Value->Prop} (g:∀ j,K j):vSliceS v z (some (.int .i64 (a:Int))) none none K:=by
 rcases h with ⟨rfl,rfl,_⟩|⟨b,c,pre,css,rest,Lr,rfl,e,_⟩
 ·exact ⟨⟨by omega,by simpa using k⟩,g _⟩
 ·exact ⟨⟨by omega,by omega⟩,g _⟩
theorem ZtW {b off n c a z:Nat} {K:Value->Prop} (e:0<c) (j:a<=c) (g:K (.slice (some ⟨b,off,none⟩) a c)):vSliceS (.slice (some ⟨b,off,none⟩) n c) z none (some (.int .i64 (a:Int))) none K:=by
 refine ⟨⟨by omega,by omega⟩,?_⟩
 have h0:Nat.beq c 0=false:=by
  cases hh:Nat.beq c 0 with
  | false=>rfl
  | true=>have:=Nat.eq_of_beq_eq_true hh;omega
 rw [Int.toNat_natCast]
 show K (.slice (bif Nat.beq c 0 then some ⟨b,off,none⟩ else (some (⟨b,off,none⟩:Addr)).map (·.add (0*z))) (a-0) (c-0))
 rw [h0]
 simpa [ZN] using g
theorem ZdB {b off n c a z:Nat} {K:Value->Prop} (j:a<=n) (g:a<c) (e:K (.slice (some ⟨b,off+a*z,none⟩) (n-a) (c-a))):vSliceS (.slice (some ⟨b,off,none⟩) n c) z (some (.int .i64 (a:Int))) none none K:=by
 refine ⟨⟨by omega,by omega⟩,?_⟩
 have h0:Nat.beq c a=false:=by
  cases hh:Nat.beq c a with
  | false=>rfl
  | true=>have:=Nat.eq_of_beq_eq_true hh;omega
 rw [Int.toNat_natCast]
 show K (.slice (bif Nat.beq c a then some ⟨b,off,none⟩ else (some (⟨b,off,none⟩:Addr)).map (·.add (a*z))) (n-a) (c-a))
 rw [h0]
 simpa [ZN] using e
theorem ZjW {z b o n c e g m vc:Nat} {cs:List Value} {K:Value->Heap->Prop} (r:cs.length=Nat.min m n*z) (k:∀ j u,cs[j]?=some u->hcell h ⟨e,g+j,none⟩=some u) (x:vStoreN ⟨b,o,none⟩ cs 0 h (K (.int .i64 (Nat.min m n)))):
  vCopy z (.slice (some ⟨b,o,none⟩) n c) (.slice (some ⟨e,g,none⟩) m vc) h K:=
 ⟨cs,r,fun j u w=>⟨_,rfl,by rw [ZN];exact k j u w⟩,(fun h=>by cases h),fun a l=>by cases l;exact x⟩
theorem RowIs.nfz {b:Nat} {cs:List Value} (a:RowIs h b cs) (j:Nat):hfroz h ⟨b,j,none⟩=false:=by
 obtain ⟨t,e⟩:=a
 unfold hfroz
 simp [e]
theorem getMid {A B C:List Value} {j:Nat} {u:Value} (h:B[j]?=some u):(A++B++C)[A.length+j]?=some u:=by
 rw [List.append_assoc,List.getElem?_append_right ω,Nat.add_sub_cancel_left,List.getElem?_append_left (ZT h)]
 exact h
theorem ZEG {E:El α} {u v:Value} {xs:List α} {y:α} {z bytes:Nat} {zero:List Value} {el:TypeId} {i:Int} (st:S ψ h0 h (.it (El.ow E) [u] [y]::.it (El.ow E) [v] xs::os)) (hz:E.z=z) (br:zero=E.zc) (z0:0<z)
  (i0:0<=i) (i1:i<=(xs.length:Int)) (bh:(xs.length+1)*bytes<=140737488355328) (bi:xs.length+1<=4611686018427387904) {K:Value->Heap->Prop}
  (hK:∀ v' h',S ψ h0 h' (.it (El.ow E) [v'] (xs.take i.toNat++[y]++xs.drop i.toNat)::os)->K v' h'):
  vSliceS v z (some (.int .i64 i)) none none fun _=>vLen u fun f=>bif ((f:Int):Int)==0 then K v h else
   vLen v fun k=>bif (i:Int)==(k:Int) then vAppend z bytes zero el v u h fun a6 a7=>K a6 a7
   else vCap v fun a8=>bif decide ((ε.wrap ((k:Int)+(f:Int)):Int)>(a8:Int)) then
     vSliceS v z none (some (.int .i64 i)) none fun a9=>
     vAppZ z bytes zero el a9 (ε.wrap ((ε.wrap ((k:Int)+(f:Int)))-i)) h fun o aa=>
     vSliceS o z (some (.int .i64 i)) none none fun ab=>
     vCopy z ab u aa fun _ ac=>
     vSliceS o z (some (.int .i64 (ε.wrap (i+(f:Int))))) none none fun ad=>
     vSliceS v z (some (.int .i64 i)) none none fun ae=>
     vCopy z ad ae ac fun _ af=>K o af
    else
     vSliceS v z none (some (.int .i64 (ε.wrap ((k:Int)+(f:Int))))) none fun g=>
     vSliceS g z (some (.int .i64 (ε.wrap (i+(f:Int))))) none none fun ag=>
     vOv [u,ag] h <|
     vSliceS g z (some (.int .i64 (ε.wrap (i+(f:Int))))) none none fun ah=>
     vSliceS g z (some (.int .i64 i)) none none fun ai=>
     vCopy z ah ai h fun _ aj=>
     vSliceS g z (some (.int .i64 i)) none none fun ak=>
     vCopy z ak u aj fun _ al=>K g al:=by
 subst hz;subst br
 obtain ⟨a,rfl⟩:∃ m:Nat,i=m:=⟨i.toNat,by omega⟩
 rw [show ((a:Int)).toNat=a from Int.toNat_natCast a] at hK
 have b8:a<=xs.length:=ω
 obtain ⟨φ,L,s,Lu,L',rfl,hu,Lv,L2,rfl,hv,r⟩:=st
 have b4:=El.ow_to hv
 rcases El.ow_to hu with ⟨_,h,_⟩|⟨vb,vc,upre,ucs,urest,Ly,rfl,hvc,_,rfl,hally⟩
 ·cases h
 have aw:ucs.flatten.length=E.z:=by rw [hally.flat];simp
 have ax:RowIs h vb (upre++ucs.flatten++urest):=s.row vb (Row.cs (upre++ucs.flatten++urest)) (by simp)
 have ar:∀ {h':Heap},RowIs h' vb (upre++ucs.flatten++urest)->∀ j w,ucs.flatten[j]?=some w->hcell h' ⟨vb,upre.length+j,none⟩=some w:=fun hr j w hw=>hr.cell (getMid hw)
 have am:ε.wrap ((xs.length:Int)+(([y]:List α).length:Int))=((xs.length+1:Nat):Int):=by rw [List.length_singleton];exact Zaj ω ω
 have an:ε.wrap ((a:Int)+(([y]:List α).length:Int))=((a+1:Nat):Int):=by rw [List.length_singleton];exact Zaj ω ω
 have ao:ε.wrap (((xs.length+1:Nat):Int)-(a:Int))=((xs.length+1-a:Nat):Int):=by rw [Zaj ω ω];omega
 refine b4.slLo b8 fun _=>ZC5 ?_
 rw [show ((([y]:List α).length:Int)==0)=false by simp]
 simp only [cond_false]
 refine b4.len ?_
 simp only [am,an,ao]
 by_cases e:a=xs.length
 ·rw [show ((a:Int)==(xs.length:Int))=true by simp [e]]
  simp only [cond_true]
  refine ZlX (rows:=Lv) (M:=(vb,.cs (upre++ucs.flatten++urest))::Ly++L2) (m:=1) (news:=ucs.flatten) (s.perm (List.perm_append_comm_assoc _ _ _)) b4 rfl ZfZ (.inr ⟨_,vc,rfl,fun j w hw=>by rw [ZN];exact ar ax j w hw⟩) (by rw [aw];omega) hally.one bh bi fun v' b7 h' p bj=>hK v' h' ⟨φ,(b7++Ly)++L2,?_,b7++Ly,L2,rfl,⟨v',rfl,?_⟩,r⟩
  ·rw [List.append_assoc]
   exact p.sub ((List.Sublist.refl _).append (by rw [List.cons_append];exact List.sublist_cons_self ..))
  ·have:=bj Ly ucs [y] hally rfl rfl
   rw [e]
   simpa using this
 ·rw [show ((a:Int)==(xs.length:Int))=false by simp;omega]
  simp only [cond_false]
  rcases b4 with ⟨_,rfl,_⟩|⟨b,c,pre,css,rest,Lr,rfl,hc,hrest,rfl,hall⟩
  ·exact (e (Nat.le_antisymm b8 (Nat.zero_le _))).elim
  obtain ⟨La,Lb,bb,a2,a3⟩:=hall.ends (Nat.le_refl a)
  have av:=ZuN hall b8
  have ba:=Zs7 hall a
  have hf:=Zt0 css a
  have b1:RowIs h b (pre++css.flatten++rest):=s.row b (Row.cs (pre++css.flatten++rest)) (by simp)
  have b3:AllR φ E (La++(Ly++Lb)) (css.take a++(ucs++css.drop a)) (xs.take a++([y]++xs.drop a)):=(a3.app hally).app a2
  have ap:(xs.take a++[y]++xs.drop a).length=xs.length+1:=by rw [List.length_append,List.length_append,List.length_take,List.length_drop,List.length_singleton];omega
  have l:∀ w∈(css.drop a).flatten,w.oneCell'=true:=fun w hw=>hall.one w (by rw [hf];exact List.mem_append_right _ hw)
  refine ZGu ?_
  have az:∀ {h':Heap},RowIs h' b (pre++css.flatten++rest)->∀ j w,(css.drop a).flatten[j]?=some w->hcell h' ⟨b,pre.length+a*E.z+j,none⟩=some w:=fun hr j w hw=>by
   refine hr.cell ?_
   rw [hf,<-List.append_assoc,show pre.length+a*E.z+j=(pre++(css.take a).flatten).length+j by rw [List.length_append,av]]
   exact getMid hw
  have b6:∀ q:Nat×Row,(q::(Ly++((La++Lb)++L2))).Perm ((q::(La++(Ly++Lb)))++L2):=fun q=>by
   rw [List.cons_append]
   refine List.Perm.cons _ ?_
   simp only [List.append_assoc]
   exact List.perm_append_comm_assoc _ _ _
  by_cases bt:xs.length+1<=c
  ·rw [show decide (((xs.length+1:Nat):Int)>(c:Int))=false from decide_eq_false ω]
   simp only [cond_false]
   refine ZtW ω ω ?_
   refine ZdB ω ω ?_
   have bq:¬ vb=b:=by
    intro e;subst e
    have:=s.nod
    simp [Rws.bs] at this
   refine ⟨bq,ax.nfz _,?_,?_,?_⟩
   ·obtain ⟨t,e⟩:=ax
    exact ⟨_,t,_,e,RowIs.nfz ⟨t,e⟩ _⟩
   ·obtain ⟨t,e⟩:=b1
    refine ⟨_,t,_,e,?_⟩
    have:=hall.flat
    have h3:0<xs.length*E.z:=Nat.mul_pos ω z0
    show (pre++css.flatten++rest).toArray.size≠0
    rw [List.size_toArray,List.length_append,List.length_append]
    omega
   refine ZdB ω ω ?_
   refine ZdB ω ω ?_
   -- what stood from a on, one further
   obtain ⟨D,hD⟩:∃ D,D=(css.drop a).flatten:=⟨_,rfl⟩
   have bp:D.length=(xs.length-a)*E.z:=by rw [hD,ba]
   have ct:E.z<=rest.length:=Nat.le_trans (by have:=Nat.mul_le_mul_right E.z (show 1<=c-xs.length by omega);omega) hrest
   have a1:pre++css.flatten++rest=(pre++(css.take a).flatten++(D++rest).take E.z)++((D++rest).drop E.z).take D.length++((D++rest).drop E.z).drop D.length:=by
    rw [List.append_assoc _ (List.take _ _),List.take_append_drop,List.append_assoc _ (List.take _ _),List.take_append_drop,hf,<-hD]
    simp only [List.append_assoc]
   have s1:S0 ψ h0 h φ ((b,Row.cs ((pre++(css.take a).flatten++(D++rest).take E.z)++((D++rest).drop E.z).take D.length++((D++rest).drop E.z).drop D.length))::(((vb,.cs (upre++ucs.flatten++urest))::Ly)++(Lr++L2))):=s.perm (by
    rw [a1,List.cons_append (bs:=L2)]
    exact List.perm_middle)
   refine ZjW (cs:=D) (by rw [bp,show Nat.min (xs.length+1-a) (xs.length+1-(a+1))=xs.length-a by simp only [Nat.min_def];split<;>omega]) (fun j w hw=>az b1 j w (by rw [<-hD];exact hw)) ?_
   refine ZbO D (((D++rest).drop E.z).take D.length) (pre++(css.take a).flatten++(D++rest).take E.z) _ 0 h _ ?_ ?_ (by rw [hD];exact l) s1.sta fun x t=>?_
   ·rw [List.length_append,List.length_append,av,List.length_take,List.length_append,Nat.min_eq_left ω,Nat.add_mul];omega
   ·rw [List.length_take,List.length_drop,List.length_append];omega
   have s2:=s1.of_sta' t (by simp [Rws.bs])
   refine ZdB ω ω ?_
   have aq:S0 ψ h0 x φ ((b,Row.cs ((pre++(css.take a).flatten)++(D++rest).take E.z++(D++((D++rest).drop E.z).drop D.length)))::(((vb,.cs (upre++ucs.flatten++urest))::Ly)++(Lr++L2))):=by
    simpa only [List.append_assoc] using s2
   refine ZjW (cs:=ucs.flatten) (by rw [aw,show Nat.min ([y]:List α).length (xs.length+1-a)=1 by rw [List.length_singleton];simp only [Nat.min_def];split<;>omega,Nat.one_mul]) (fun j w hw=>ar (aq.row vb (Row.cs (upre++ucs.flatten++urest)) (by simp)) j w hw) ?_
   refine ZbO ucs.flatten ((D++rest).take E.z) (pre++(css.take a).flatten) _ 0 x _ (by rw [List.length_append,av];rfl) (by rw [aw,List.length_take,List.length_append];omega) hally.one aq.sta fun h3 t3=>?_
   have p:=aq.of_sta' t3 (by simp [Rws.bs])
   have s4:=p.sub (L':=(b,Row.cs ((pre++(css.take a).flatten)++ucs.flatten++(D++((D++rest).drop E.z).drop D.length)))::(Ly++((La++Lb)++L2))) (List.Sublist.cons_cons _ (by rw [List.cons_append];exact ((List.Sublist.refl Ly).append (bb.append_right _)).cons _))
   refine hK _ h3 ⟨φ,_,s4.perm (b6 _),_,L2,rfl,⟨_,rfl,.inr ⟨b,c,pre,css.take a++(ucs++css.drop a),((D++rest).drop E.z).drop D.length,La++(Ly++Lb),?_,?_,?_,?_,?_⟩⟩,r⟩
   ·rw [ap]
   ·rw [ap];omega
   ·rw [ap,List.length_drop,List.length_drop,List.length_append,Nat.sub_add_eq,Nat.sub_mul];omega
   ·rw [List.flatten_append,List.flatten_append,<-hD];simp only [List.append_assoc]
   ·rw [List.append_assoc];exact b3
  ·rw [show decide (((xs.length+1:Nat):Int)>(c:Int))=true from decide_eq_true ω]
   simp only [cond_true]
   refine ZtW ω ω ?_
   obtain ⟨m,hm⟩:∃ m,m=xs.length+1-a:=⟨_,rfl⟩
   have b5:a+m=xs.length+1:=ω
   refine ⟨by omega,(css.take a).flatten,av,fun j w hw=>⟨_,rfl,?_⟩,?_,?_,?_,fun a4 bk cr=>?_⟩
   ·rw [ZN]
    refine b1.cell ?_
    rw [hf,<-List.append_assoc pre,List.append_assoc]
    exact getMid hw
   ·rw [Int.toNat_natCast,<-hm,b5];exact bh
   ·rw [Int.toNat_natCast,<-hm,b5];exact bi
   ·rw [Int.toNat_natCast,<-hm,b5];omega
   rw [Int.toNat_natCast,<-hm,b5] at bk ⊢
   have s1:=s.new ((css.take a).flatten++repl m E.zc++repl (a4-(xs.length+1)) E.zc) el
   have bg:(repl m E.zc).length=m*E.z:=by rw [ZdF,ZfZ]
   have cu:E.z<=m*E.z:=by have:=Nat.mul_le_mul_right E.z (show 1<=m by omega);omega
   refine ZdB (b:=h.size) (off:=0) ω ω ?_
   have bc:S0 ψ h0 (h.push (.cells ((css.take a).flatten++repl m E.zc++repl (a4-(xs.length+1)) E.zc).toArray el)) φ ((h.size,Row.cs ((css.take a).flatten++(repl m E.zc).take E.z++((repl m E.zc).drop E.z++repl (a4-(xs.length+1)) E.zc)))::(((vb,.cs (upre++ucs.flatten++urest))::Ly)++(((b,.cs (pre++css.flatten++rest))::Lr)++L2))):=by
    have e1:(css.take a).flatten++(repl m E.zc).take E.z++((repl m E.zc).drop E.z++repl (a4-(xs.length+1)) E.zc)=(css.take a).flatten++repl m E.zc++repl (a4-(xs.length+1)) E.zc:=by
     rw [List.append_assoc,<-List.append_assoc (List.take _ _),List.take_append_drop,List.append_assoc]
    rw [e1];exact s1
   refine ZjW (cs:=ucs.flatten) (by rw [aw,show Nat.min ([y]:List α).length (xs.length+1-a)=1 by rw [List.length_singleton];simp only [Nat.min_def];split<;>omega,Nat.one_mul]) (fun j w hw=>ar (bc.row vb (Row.cs (upre++ucs.flatten++urest)) (by simp)) j w hw) ?_
   refine ZbO ucs.flatten ((repl m E.zc).take E.z) (css.take a).flatten _ 0 _ _ (by rw [av];omega) (by rw [aw,List.length_take,bg];omega) hally.one bc.sta fun x t2=>?_
   have s2:=bc.of_sta' t2 (by simp [Rws.bs])
   have aq:S0 ψ h0 x φ ((h.size,Row.cs (((css.take a).flatten++ucs.flatten)++(repl m E.zc).drop E.z++repl (a4-(xs.length+1)) E.zc))::(((vb,.cs (upre++ucs.flatten++urest))::Ly)++(((b,.cs (pre++css.flatten++rest))::Lr)++L2))):=by
    simpa only [List.append_assoc] using s2
   refine ZdB (b:=h.size) (off:=0) ω ω ?_
   refine ZdB ω ω ?_
   refine ZjW (cs:=(css.drop a).flatten) (by rw [ba,show Nat.min (xs.length-a) (xs.length+1-(a+1))=xs.length-a by simp only [Nat.min_def];split<;>omega]) (az (aq.row b (Row.cs (pre++css.flatten++rest)) (by simp))) ?_
   refine ZbO (css.drop a).flatten ((repl m E.zc).drop E.z) ((css.take a).flatten++ucs.flatten) _ 0 x _ ?_ ?_ l aq.sta fun h3 t3=>?_
   ·rw [List.length_append,av,aw,Nat.add_mul];omega
   ·rw [List.length_drop,bg,ba,show m=(xs.length-a)+1 by omega,Nat.add_mul];omega
   have p:=aq.of_sta' t3 (by simp [Rws.bs])
   have s4:=p.sub (L':=(h.size,Row.cs (((css.take a).flatten++ucs.flatten)++(css.drop a).flatten++repl (a4-(xs.length+1)) E.zc))::(Ly++((La++Lb)++L2))) (List.Sublist.cons_cons _ (by
    rw [List.cons_append]
    refine (List.Sublist.append (List.Sublist.refl Ly) ?_).cons _
    rw [List.cons_append]
    exact (bb.append_right _).cons _))
   refine hK _ h3 ⟨φ,_,s4.perm (b6 _),_,L2,rfl,⟨_,rfl,.inr ⟨h.size,a4,[],css.take a++(ucs++css.drop a),repl (a4-(xs.length+1)) E.zc,La++(Ly++Lb),?_,?_,?_,?_,?_⟩⟩,r⟩
   ·rw [ap];rfl
   ·rw [ap];omega
   ·rw [ap,ZdF,ZfZ];exact Nat.le_refl _
   ·rw [List.flatten_append,List.flatten_append];simp only [List.append_assoc,List.nil_append]
   ·rw [List.append_assoc];exact b3
theorem one_S {E:El α} {cs:List Value} {y:α} {t:TypeId} (st:S ψ h0 h (.it E cs y::os)) {K:Value->Heap->Prop} (l:∀ e g,S ψ h0 g (.it (El.ow E) [e] [y]::os)->K e g):vNewS h (.cells cs.toArray t) 1 K:=by
 refine vNewS.mk ?_
 obtain ⟨k,L,s,a,L',rfl,j,r⟩:=st
 have s1:=s.new cs t
 exact l _ _ ⟨k,_,s1,(h.size,.cs cs)::a,L',rfl,⟨_,rfl,.inr ⟨h.size,1,[],[cs],[],a,rfl,Nat.le_refl _,by simp,by simp,⟨a,[],by simp,j,rfl⟩⟩⟩,r⟩
end
end Go.Vc
